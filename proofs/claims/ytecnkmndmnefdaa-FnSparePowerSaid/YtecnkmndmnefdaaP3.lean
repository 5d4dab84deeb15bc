/-
  Texts of this claim, merged: Stop RuleP RuleK Mark MarkI TrimO TrimI TrimS Trim OrLim MapD WdM WdN JoinM.
-/
import Derived.Test.YtecnkmndmnefdaaP2
import Derived.Deep.RegionLaw
import Derived.Maps.OwnOps
import Derived.Deep.RegionHeld3
import Derived.Deep.RegionWith
import Derived.Deep.DeepCutAuto
import Derived.Deep.CutBlock


/-
  The walk made to stand ahead of an operation, so that a law can be laid there.
-/
namespace Go.Proofs.Ytecnkmndmnefdaa
open Go.RowKit

/-! ### the walk made to stand ahead of an operation -/
def Stop (p : Prop) : Prop := p
theorem stopW {P : Program} {ops : Array Oper} {Q : Exit → Act → World → Prop} {a : Act} {W : World} {l : List Oper} (h : Stop (wpList P ops Q l a W)) : wpList P ops Q l a W := h
theorem stop_named {P : Program} {ops : Array Oper} {Q : Exit → Act → World → Prop} {a : Act} {W : World} {l : List Oper} (h : ∀ w, Hid (w = W) → Stop (wpList P ops Q l a w)) : Stop (wpList P ops Q l a W) := h W (Lib.hid rfl)
end Go.Proofs.Ytecnkmndmnefdaa


/-
  Lists of rules that a call makes: what is appended, copied.
-/
namespace Go.Proofs.Ytecnkmndmnefdaa
open Go.RowKit

theorem elem_rule : Elem Try.prog 24 69 3 32 := Elem.mk' (z := .agg #[.string .empty, .int .i64 0, .int .i64 0]) Try.underlying24 (by kernel_rfl) rfl
theorem one_fac (f : Fac) : ∀ u ∈ Fac.cells f, u.oneCell' = true := by simp [Fac.cells, Value.oneCell']
/-- what lies behind a list, cell for cell -/
theorem Rd.news {α : Type} {w : World} {B n sz : Nat} {A : Option Addr} {enc : α → List Value} {xs : List α} (h : Rd w B A n sz enc xs) (hl : ∀ x ∈ xs, (enc x).length = sz) (hn : 0 < n) :
    ∃ b o, A = some ⟨b, o, none⟩ ∧ b < B ∧ ∀ j u, (xs.flatMap enc)[j]? = some u → w.cell? ((⟨b, o, none⟩ : Addr).add j) = some u := by
  obtain ⟨b, o, hA, hb, hc⟩ := h.2 hn
  refine ⟨b, o, hA, hb, fun j u hj => ?_⟩
  have hlt := (List.getElem?_eq_some_iff.1 hj).1
  rw [flat_len xs hl] at hlt
  have hsz : 0 < sz := by
    rcases Nat.eq_zero_or_pos sz with h | h
    · subst h; simp at hlt
    · exact h
  have hk : j / sz < xs.length := Nat.div_lt_of_lt_mul (by rw [Nat.mul_comm]; exact hlt)
  have he : j / sz * sz + j % sz = j := by rw [Nat.mul_comm]; exact Nat.div_add_mod j sz
  have hx : xs[j / sz]? = some (xs[j / sz]'hk) := List.getElem?_eq_getElem _
  have h2 := flat_at xs hl _ _ hx (j % sz) (Nat.mod_lt _ hsz)
  rw [he, hj] at h2
  have h3 := hc _ _ hx (j % sz) u h2.symm
  rw [Nat.add_assoc, he] at h3
  simpa [Addr.add_lit] using h3
/-- a row of the call's own, behind a store into a block of another type -/
theorem own_kept' {w : World} {base g : Nat} {e t : TypeId} {sz n : Nat} {v : Value} {xs : List Value} {cs : Array Value} (h : w.ownsRow base e sz v n xs) (hB : Blk w g t cs) (ht : e ≠ t) (u : Value) {i : Nat} : (w.setCell ⟨g, i, none⟩ u).ownsRow base e sz v n xs := by
  refine h.kept (gb_set w g i u) ?_
  cases hv : v.ownBlock with
  | none => exact .inl rfl
  | some k => exact .inr fun e => own_blk_ne h hB ht (by rw [hv]; exact e.symm)
section
variable {α : Type} {P : Program} {w : World} {ops : Array Oper} {o : Oper} {a : Act} {rest : List Oper}
/-- a list appended to a slice of the call's own -/
theorem wpList_app {Q : Exit → Act → World → Prop} (hgd : o.guard = none) (s x : Operand) (t : TypeId) (ho : o.op = .call { callee := .builtin .append, args := #[s, x], argTypes := #[t, t] })
    (base : Nat) (e : TypeId) (sz bytes : Nat) (EI : Elem P t e sz bytes) (enc : α → List Value) (A : Option Addr) (n c : Nat) (xs : List α) (hs : a.eval s = .slice A n c)
    (hown : w.ownsRow base e sz (.slice A n c) n (xs.flatMap enc)) (ad : Addr) (m cc : Nat) (ys : List α) (hx : a.eval x = .slice (some ad) m cc) (hym : ys.length = m) (hm0 : 0 < m) (hnews : ∀ j u, (ys.flatMap enc)[j]? = some u → w.cell? (ad.add j) = some u)
    (hlen : ∀ y ∈ ys, (enc y).length = sz) (hone : ∀ y ∈ ys, ∀ u ∈ enc y, u.oneCell' = true) (hsz : 0 < sz) (hbytes : (n + m) * bytes ≤ 140737488355328) (hm : n + m ≤ maxLen) (hsize : base ≤ w.heap.size)
    (h : ∀ A' c' w', w'.ownsRow base e sz (.slice A' (n + m) c') (n + m) ((xs ++ ys).flatMap enc) → w.grownBy w' (Value.slice A n c).ownBlock →
      ((Value.slice A' (n + m) c').ownBlock = (Value.slice A n c).ownBlock ∨ (Value.slice A' (n + m) c').ownBlock = some w.heap.size) → wpList P ops Q rest (a.put o.dst (.slice A' (n + m) c')) w') : wpList P ops Q (o :: rest) a w := by
  obtain ⟨ht, i, z, hi, hz, h1, h2, hzs⟩ := EI
  refine wpList_plain hgd fun _ hK => ?_
  obtain ⟨v', w', hr, r2, r3, _, r5⟩ := run_append_own_at (P := P) w base t o.type e i z sz bytes ht hi hz h1 h2 hzs hsz _ n _ hown ad m cc (ys.flatMap enc) (by rw [flat_len ys hlen, hym]) hnews
    (fun u hu => by obtain ⟨y, hy, hu⟩ := List.mem_flatMap.1 hu; exact hone y hy u hu) hm hbytes hsize
  obtain ⟨g', cap, rfl, _, _⟩ := r2.form (by omega)
  unfold Oper.wp execOp
  simp only [ho, resolve, invoke, builtin, Sem.run_bind, Sem.run_pure, Result.andThen_ok, List.map_toArray, List.map_cons, List.map_nil, hs, hx, hr]
  exact hK _ _ (h _ _ w' (by rw [List.flatMap_append]; exact r2) r3 r5)
/-- the same, as a step of a region that draws its order -/
theorem step_app {K : Act → World → Prop} {Q : Exit → Act → World → Prop} {E : Prop} (hgd : o.guard = none) (s x : Operand) (t : TypeId) (ho : o.op = .call { callee := .builtin .append, args := #[s, x], argTypes := #[t, t] })
    (base : Nat) (e : TypeId) (sz bytes : Nat) (EI : Elem P t e sz bytes) (enc : α → List Value) (A : Option Addr) (n c : Nat) (xs : List α) (hs : a.eval s = .slice A n c)
    (hown : w.ownsRow base e sz (.slice A n c) n (xs.flatMap enc)) (ad : Addr) (m cc : Nat) (ys : List α) (hx : a.eval x = .slice (some ad) m cc) (hym : ys.length = m) (hm0 : 0 < m) (hnews : ∀ j u, (ys.flatMap enc)[j]? = some u → w.cell? (ad.add j) = some u)
    (hlen : ∀ y ∈ ys, (enc y).length = sz) (hone : ∀ y ∈ ys, ∀ u ∈ enc y, u.oneCell' = true) (hsz : 0 < sz) (hbytes : (n + m) * bytes ≤ 140737488355328) (hm : n + m ≤ maxLen) (hsize : base ≤ w.heap.size)
    (h : ∀ A' c' w', w'.ownsRow base e sz (.slice A' (n + m) c') (n + m) ((xs ++ ys).flatMap enc) → w.grownBy w' (Value.slice A n c).ownBlock → K (a.put o.dst (.slice A' (n + m) c')) w') :
    if Region.wanted o (yielded ops a.tmps) = true then Oper.wp P o a w K Q else E := by
  obtain ⟨ht, i, z, hi, hz, h1, h2, hzs⟩ := EI
  obtain ⟨v', w', hr, r2, r3, _, r5⟩ := run_append_own_at (P := P) w base t o.type e i z sz bytes ht hi hz h1 h2 hzs hsz _ n _ hown ad m cc (ys.flatMap enc) (by rw [flat_len ys hlen, hym]) hnews
    (fun u hu => by obtain ⟨y, hy, hu⟩ := List.mem_flatMap.1 hu; exact hone y hy u hu) hm hbytes hsize
  obtain ⟨g', cap, rfl, _, _⟩ := r2.form (by omega)
  have hw : Region.wanted o (yielded ops a.tmps) = true := by simp [Region.wanted, hgd]
  rw [if_pos hw]
  unfold Oper.wp execOp
  simp only [ho, resolve, invoke, builtin, Sem.run_bind, Sem.run_pure, Result.andThen_ok, List.map_toArray, List.map_cons, List.map_nil, hs, hx, hr]
  exact h _ _ w' (by rw [List.flatMap_append]; exact r2) r3
end
set_option maxHeartbeats 2000000 in
set_option maxRecDepth 100000 in
theorem l02Own_any (gb : Nat) (A : Option Addr) (n c : Nat) (rs : List Fac) (w : World) (hg : gb < w.heap.size) (hc : w.cell? ⟨gb, 0, none⟩ = some (.slice A n c)) (hn : n ≤ 1048576) (hn0 : 0 < n) (hr : Rd w w.heap.size A n 3 Fac.cells rs) :
    Calls Try.prog 55 #[.pointer (some ⟨gb, 0, none⟩)] w (RetG w rs) := by
  have hl := Lib.hid hr.len
  obtain ⟨b, o, rfl, hb, hnews⟩ := hr.news (fun x _ => fac_len x) hn0
  have HN := Lib.hid hnews; clear hnews hr
  have hh := Lib.hid (fun (W : World) (h : Below w.heap.size w W) j u (hj : (rs.flatMap Fac.cells)[j]? = some u) => ((h.cell (p := (⟨b, o, none⟩ : Addr).add j) (by simpa [Addr.add_lit] using hb)).trans (HN.out j u hj)))
  have h2 : Below w.heap.size w ((w.alloc (.cells #[.slice none 0 0] 26)).alloc (.cells #[] 69)) := by (repeat first | exact Below.refl _ _ | assumption | refine Below.drew ?_ | refine Below.alloc ?_ (by first | exact Nat.le_refl _ | (simp; done) | omega | (simp; omega)) _ | refine Below.setCell ?_ (by first | exact Nat.le_refl _ | (simp; done) | omega | (simp; omega)) _)
  have ow : ((w.alloc (.cells #[.slice none 0 0] 26)).alloc (.cells #[] 69)).ownsRow w.heap.size 69 3 (.slice (some ⟨w.heap.size + 1, 0, none⟩) 0 0) 0 (([] : List Fac).flatMap Fac.cells) := by
    simpa using World.ownsRow_made (base := w.heap.size) (e := 69) (size := 3) (w.alloc (.cells #[.slice none 0 0] 26)) #[] 0 (by simp) (by unfold maxLen; omega) rfl
  have bx := (Blk.new w 26 #[.slice none 0 0]).alloc (.cells #[] 69)
  have H2 := Lib.hid h2; have OW := Lib.hid ow; have BX := Lib.hid bx
  clear h2 ow bx
  go_enter Try.func55, Try.ntmps55
  go_wp2_with
    (at_builtin
     refine wpList_app rfl _ _ _ rfl w.heap.size 69 3 32 elem_rule Fac.cells (some ⟨w.heap.size + 1, 0, none⟩) 0 0 [] rfl OW.out ⟨b, o, none⟩ n c rs rfl hl.out hn0 (fun j u hj => hh.out _ H2.out j u hj) (fun x _ => fac_len x) (fun x _ => one_fac x) (by omega) (by omega) (by unfold maxLen; omega) (by simp; omega) ?_
     rw [Nat.zero_add, List.nil_append]
     intro A9 c9 w9 own9 hg9 hat9
     have O9 := Lib.hid own9
     have B9 := Lib.hid (H2.out.grown hg9 (by simp; omega) (fun k hk => (OW.out.lt k hk).1))
     have X9 := BX.out.grown hg9 (by simp [Value.ownBlock])
     have X9' := Lib.hid X9
     have f9 := X9.frozen
     have d9 := X9.cell 0
     have l9 := X9.lt
     clear own9 X9)
  have X10 := X9'.out.set_ 0 (.slice A9 n c9)
  have x10 : (w9.setCell ⟨w.heap.size, 0, none⟩ (.slice A9 n c9)).cell? ⟨w.heap.size, 0, none⟩ = some (.slice A9 n c9) := by rw [X10.cell 0]; rfl
  refine bodyPost_ret (v := .agg #[.slice A9 n c9]) (by simp [results, Try.results55, go_sem, x10]) rfl ⟨A9, c9, by rw [hl.out], ?_, B9.out.setCell (Nat.le_refl _) _⟩
  rw [hl.out]
  exact own_kept' O9.out X9'.out (by decide) _
end Go.Proofs.Ytecnkmndmnefdaa


/-
  A map whose keys are rules.
-/
namespace Go.Proofs.Ytecnkmndmnefdaa
open Go.RowKit Go.MapKept

section
variable {α : Type} [DecidableEq α] {P : Program} {w : World} {ops : Array Oper} {rest : List Oper} {o : Oper} {a : Act} {b : Nat} {K : α → Value} {mm : List (α × Value)} {kt t e : TypeId} {z : Value}
/-- a look-up in a map of the call's own, with the word whether there is an entry -/
theorem wpList_lookOk {Q : Exit → Act → World → Prop} (hgd : o.guard = none) (m x : Operand) (ho : o.op = .lookup t m x true) (KO : KeyOk P kt K) (ht : P.underlying t = some (.map kt e)) (hz : (zeroValue e).run P w = .ok z w) (hm : a.eval m = .map (some b)) (y : α) (hx : a.eval x = K y)
    (h : MapIs w b K mm) (hK : wpList P ops Q rest (a.put o.dst (.tuple #[(mget y mm).getD z, .bool (mget y mm).isSome])) w) : wpList P ops Q (o :: rest) a w := by
  refine wpList_plain hgd fun _ hK' => ?_
  unfold Oper.wp execOp
  simp only [ho, hm, hx, Sem.run_bind, h.lookOk KO ht hz y, Result.andThen_ok, Sem.run_pure]
  exact hK' _ _ hK
end
theorem zero_i64 (w : World) : (zeroValue 2).run Try.prog w = .ok (.int .i64 0) w := by kernel_rfl
theorem eql_rule (f g : Fac) (W : World) : (binOp .eql 69 (.agg #[.string f.l, .int .i64 f.a, .int .i64 f.b]) (.agg #[.string g.l, .int .i64 g.a, .int .i64 g.b])).run Try.prog W = .ok (.bool (decide (f = g))) W := by
  rw [eq_fac]
  simp [go_sem, tl_inj]
  try (by_cases h1 : f.l = g.l <;> by_cases h2 : f.a = g.a <;> by_cases h3 : f.b = g.b <;> simp [h1, h2, h3])
theorem equal_rule (f g : Fac) (W : World) : (Op.equal 69 f.val g.val).run Try.prog W = .ok (decide (f = g)) W := by
  have h := eql_rule f g W
  unfold binOp at h
  simp only [Sem.run_bind] at h
  unfold Fac.val
  generalize hr : Sem.run Try.prog (Op.equal 69 (.agg #[.string f.l, .int .i64 f.a, .int .i64 f.b]) (.agg #[.string g.l, .int .i64 g.a, .int .i64 g.b])) W = r at h ⊢
  cases r with
  | ok b w' =>
    simp [Result.andThen] at h
    rw [h.1, h.2]
  | _ => simp [Result.andThen] at h
theorem rule_key : KeyOk Try.prog 69 Fac.val := by
  refine ⟨fun e a w => ?_, fun a m es w he => ?_, fun a w => ?_⟩
  · have hs : ∀ n v, (Instr.checkKey e (n + 1) 9 (.string v)).run Try.prog w = .ok () w := fun n v => run_checkKey Try.underlying9 (by simp [IsKey]) e n
    have hi : ∀ n v, (Instr.checkKey e (n + 1) 2 (.int .i64 v)).run Try.prog w = .ok () w := fun n v => run_checkKey Try.underlying2 (by simp [IsKey]) e n
    unfold Fac.val
    show (Instr.checkKey e (9999 + 1) 69 _).run _ _ = _
    unfold Instr.checkKey
    simp only [Sem.run_bind, run_underlying Try.underlying69]
    have hs' := hs 9998
    have hi' := hi 9998
    simp [go_sem, hs', hi']
  · have ask : ∀ (m : List (Fac × Value)) (es : List MapEntry) (i : Nat), es.map (fun e => (e.key, e.val)) = m.map (fun p => (Fac.val p.1, p.2)) → (Instr.findAsking 69 (Fac.val a) es i).run Try.prog w = .ok (midx a m i) w := by
      intro m
      induction m with
      | nil => intro es i he; cases es with | nil => rfl | cons _ _ => simp at he
      | cons p r ih =>
        intro es i he
        cases es with
        | nil => simp at he
        | cons e es =>
          simp at he
          obtain ⟨⟨h1, h2⟩, h3⟩ := he
          unfold Instr.findAsking
          rw [h1, midx_cons]
          simp only [Sem.run_bind, equal_rule, Result.andThen_ok]
          by_cases hap : a = p.1
          · simp [hap, h2]
          · simp only [hap, decide_false, if_false, Bool.false_eq_true]
            exact ih es (i + 1) h3
    cases es with
    | nil =>
      cases m with
      | nil => simp [Instr.findKey, run_underlying Try.underlying69, Instr.findNow, midx]
      | cons _ _ => simp at he
    | cons e es =>
      have hn : Instr.findNow (TypeDesc.struct #[]) (Fac.val a) (e :: es) 0 = none := by unfold Instr.findNow Instr.sameNow; rfl
      have := ask m (e :: es) 0 he
      simp [Instr.findKey, run_underlying Try.underlying69, Instr.findNow, Instr.sameNow, Fac.val] at this ⊢
      exact this
  · have : Instr.sameBits 10000 a.val a.val = true := by
      show Instr.sameBits (9999 + 1) (.agg _) (.agg _) = true
      unfold Instr.sameBits
      simp [Instr.sameBits, beq_toListBytes, tl_beq]
    simp [Instr.keyThatStays, this]
end Go.Proofs.Ytecnkmndmnefdaa


/-
  The marks that the laws lay into results, and whether they are still there.
-/
namespace Go.Proofs.Ytecnkmndmnefdaa
open Go.RowKit

def digB (k : Nat) : UInt8 := UInt8.ofNat (48 + k % 10)
/-- the digits of a number, ahead of a text -/
def mtGo (k : Nat) (out : ByteArray) : ByteArray :=
  if 0 < k then mtGo (k / 10) ((⟨#[digB k]⟩ : ByteArray) ++ out) else out
termination_by k
decreasing_by omega
def mt (k : Nat) : ByteArray := if k = 0 then ⟨#[109, 48]⟩ else (⟨#[109]⟩ : ByteArray) ++ mtGo k ⟨#[]⟩

theorem mtGo_pos {j : Nat} (h : 0 < j) (out : ByteArray) : mtGo j out = mtGo (j / 10) ((⟨#[digB j]⟩ : ByteArray) ++ out) := by
  conv => lhs; rw [mtGo]
  rw [if_pos h]
/-- one byte as a text -/
theorem conv_one (W : World) (j c : Nat) : (convert 22 9 (.slice (some ⟨W.heap.size, 0, none⟩) 1 c)).run Try.prog (W.alloc (.cells #[.int .u8 (48 + (j : Int) % 10)] 5)) =
    .ok (.string ⟨#[digB j]⟩) (W.alloc (.cells #[.int .u8 (48 + (j : Int) % 10)] 5)) := by
  have e : ((digB j).toNat : Int) = 48 + (j : Int) % 10 := by
    unfold digB; rw [UInt8.toNat_ofNat']; omega
  refine run_convert_bytes_back (P := Try.prog) _ _ _ 5 ⟨W.heap.size, 0, none⟩ c [digB j] Try.underlying22 Try.underlying5 Try.underlying9 fun i hi => ?_
  obtain rfl : i = 0 := by simpa using hi
  rw [List.getElem_cons_zero, e]
  exact (Blk.new W 5 #[.int .u8 (48 + (j : Int) % 10)]).cell 0

theorem mtGo_size : ∀ (k : Nat) (out : ByteArray), k ≤ 100000000 → (mtGo k out).size ≤ out.size + k := by
  intro k
  induction k using Nat.strongRecOn with
  | ind k ih =>
    intro out hk
    by_cases h : 0 < k
    · rw [mtGo_pos h]
      have := ih (k / 10) (by omega) ((⟨#[digB k]⟩ : ByteArray) ++ out) (by omega)
      rw [ByteArray.size_append] at this
      have e : (⟨#[digB k]⟩ : ByteArray).size = 1 := rfl
      omega
    · rw [mtGo, if_neg h]; omega
theorem mt_size (k : Nat) (h : k ≤ 100000000) : (mt k).size ≤ 200000000 := by
  unfold mt
  split
  · show 2 ≤ _; omega
  · rw [ByteArray.size_append]
    have := mtGo_size k ⟨#[]⟩ h
    have e : (⟨#[109]⟩ : ByteArray).size = 1 := rfl
    have e2 : (⟨#[]⟩ : ByteArray).size = 0 := rfl
    omega
def strEM (s : ByteArray) : List Value := [.string s]
/-- the marks from k on -/
def marks (k : Nat) : Nat → List ByteArray
  | 0 => []
  | n + 1 => mt k :: marks (k + 1) n
theorem marks_len : ∀ (n k : Nat), (marks k n).length = n
  | 0, _ => rfl
  | n + 1, k => by simp [marks, marks_len n]
theorem marks_at : ∀ (n k i : Nat), i < n → (marks k n)[i]? = some (mt (k + i))
  | 0, _, i, h => by omega
  | n + 1, k, 0, _ => by simp [marks]
  | n + 1, k, i + 1, h => by
    rw [marks, List.getElem?_cons_succ, marks_at n (k + 1) i (by omega)]
    congr 2; omega

/-- the cells of a slice of the call's own, marked -/
theorem own_set {w : World} {base : Nat} {e : TypeId} {sz n c g : Nat} {xs : List Value} (h : w.ownsRow base e sz (.slice (some ⟨g, 0, none⟩) n c) n xs) (i : Nat) (u : Value) :
    (w.setCell ⟨g, i, none⟩ u).ownsRow base e sz (.slice (some ⟨g, 0, none⟩) n c) n (xs.set i u) := by
  exact (h.stored i u).1
end Go.Proofs.Ytecnkmndmnefdaa


/-
  The marks that the laws lay into lists of numbers and of rules.
-/
namespace Go.Proofs.Ytecnkmndmnefdaa
open Go.RowKit

/-- two rows of different element types do not share a block -/
theorem own_ne {w : World} {b1 b2 e1 e2 s1 s2 n1 n2 : Nat} {v1 v2 : Value} {xs1 xs2 : List Value} (h1 : w.ownsRow b1 e1 s1 v1 n1 xs1) (h2 : w.ownsRow b2 e2 s2 v2 n2 xs2) (hne : e1 ≠ e2) : v1.ownBlock = none ∨ v1.ownBlock ≠ v2.ownBlock := by
  rcases h1.2 with ⟨rfl, _⟩ | ⟨g1, c1, u1, rfl, _, hh1, _⟩
  · left; rfl
  · right
    rcases h2.2 with ⟨rfl, _⟩ | ⟨g2, c2, u2, rfl, _, hh2, _⟩
    · simp [Value.ownBlock]
    · intro he
      have hg : g1 = g2 := by simpa [Value.ownBlock] using he
      subst hg
      rw [hh1] at hh2
      injection hh2 with hh2
      injection hh2 with _ ht
      exact hne ht
/-- the numbers from k on -/
def marksI (k : Nat) : Nat → List Int
  | 0 => []
  | n + 1 => (k : Int) :: marksI (k + 1) n
theorem marksI_len : ∀ (n k : Nat), (marksI k n).length = n
  | 0, _ => rfl
  | n + 1, k => by simp [marksI, marksI_len n]
theorem marksI_at : ∀ (n k i : Nat), i < n → (marksI k n)[i]? = some ((k + i : Nat) : Int)
  | 0, _, i, h => by omega
  | n + 1, k, 0, _ => by simp [marksI]
  | n + 1, k, i + 1, h => by
    rw [marksI, List.getElem?_cons_succ, marksI_at n (k + 1) i (by omega)]
    congr 2; omega
theorem own_setI {w : World} {base : Nat} {e : TypeId} {sz n c g : Nat} {xs : List Value} (h : w.ownsRow base e sz (.slice (some ⟨g, 0, none⟩) n c) n xs) (i : Nat) (u : Value) :
    (w.setCell ⟨g, i, none⟩ u).ownsRow base e sz (.slice (some ⟨g, 0, none⟩) n c) n (xs.set i u) := (h.stored i u).1
end Go.Proofs.Ytecnkmndmnefdaa


/-
  A grammar trimmed: the rules that are left, written down.
-/
namespace Go.Proofs.Ytecnkmndmnefdaa
open Go.RowKit

theorem info_bool : (Try.prog.info? 4).map (fun i => (i.zero, i.size, i.bytes)) = some (some (.bool false), 1, 1) := by kernel_rfl
def boolA (u : List Bool) : Array Value := (u.map Value.bool).toArray
theorem boolA_made (n : Nat) : madeCells (Value.bool false).cells (n * 1) = boolA (List.replicate n false) := by
  apply Array.ext
  · simp [size_madeCells, boolA]
  · intro i h1 h2
    simp [madeCells, Value.cells, boolA, Nat.mod_one]
theorem boolA_set (u : List Bool) (i : Nat) (b : Bool) : (boolA u).setIfInBounds i (.bool b) = boolA (u.set i b) := by
  unfold boolA
  apply Array.ext'
  simp [List.map_set]
theorem boolA_at (u : List Bool) {i : Nat} (h : i < u.length) : (boolA u)[i]? = some (.bool (u.getD i false)) := by
  simp [boolA, List.getD_eq_getElem?_getD, List.getElem?_eq_getElem h]
def intA (u : List Int) : Array Value := (u.map (Value.int .i64)).toArray
theorem intA_made (n : Nat) : madeCells (Value.int .i64 0).cells (n * 1) = intA (List.replicate n 0) := by
  apply Array.ext
  · simp [size_madeCells, intA]
  · intro i h1 h2
    simp [madeCells, Value.cells, intA, Nat.mod_one]
theorem intA_set (u : List Int) (i : Nat) (b : Int) : (intA u).setIfInBounds i (.int .i64 b) = intA (u.set i b) := by
  unfold intA
  apply Array.ext'
  simp [List.map_set]
theorem intA_at (u : List Int) {i : Nat} (h : i < u.length) : (intA u)[i]? = some (.int .i64 (u.getD i 0)) := by
  simp [intA, List.getD_eq_getElem?_getD, List.getElem?_eq_getElem h]
theorem info_i64' : (Try.prog.info? 2).map (fun i => (i.zero, i.size, i.bytes)) = some (some (.int .i64 0), 1, 8) := by kernel_rfl
theorem makeN (n : Nat) (W : World) (hn : n ≤ 1048576) : (Instr.makeSlice 32 (.int .i64 (n : Int)) (.int .i64 (n : Int))).run Try.prog W = .ok (.slice (some ⟨W.heap.size, 0, none⟩) n n) (W.alloc (.cells (intA (List.replicate n 0)) 2)) := by
  obtain ⟨i0, hi, hz0, hz1, hz2⟩ := info_parts info_i64'
  have hmk := run_make_rowN (P := Try.prog) 32 2 i0 _ Try.underlying32 hi hz0 .i64 .i64 n n (Nat.le_refl _) (by rw [hz2]; omega) (by omega) W
  rw [hz1, intA_made] at hmk
  exact hmk
theorem news1 {W : World} {g : Nat} {t : TypeId} {y : Fac} (h : Blk W g t #[.string y.l, .int .i64 y.a, .int .i64 y.b]) : ∀ j u, ([y].flatMap Fac.cells)[j]? = some u → W.cell? ((⟨g, 0, none⟩ : Addr).add j) = some u := by
  intro j u hj
  have e : ((⟨g, 0, none⟩ : Addr).add j) = ⟨g, j, none⟩ := by
    simp only [Addr.add, Nat.zero_add]
    by_cases h0 : j = 0
    · subst h0; rfl
    · simp [h0]
  rw [e, h.cell j]
  simpa [Fac.cells] using hj
/-- the last round of 'trimmed' under way -/
structure OutW (O : Nat) (w W : World) (A4 : Option Addr) (c4 k : Nat) (kept : List Fac) (X U : Nat) (u : List Bool) (V : Nat) (at_ : List Int) (B : Nat) (A7 : Option Addr) (nn c7 : Nat) (out : List Fac) : Prop where
  r : W.ownsRow w.heap.size 69 3 (.slice A4 k c4) k (kept.flatMap Fac.cells)
  u : Blk W U 4 (boolA u)
  v : Blk W V 2 (intA at_)
  b : Blk W B 26 #[.slice A7 nn c7]
  o : Blk W O 26 #[.slice none 0 0]
  q : W.ownsRow X 69 3 (.slice A7 nn c7) nn (out.flatMap Fac.cells)
  e : Below w.heap.size w W
  n0 : w.heap.size ≤ O
  n1 : O < B
  n2 : B < X
  n3 : w.heap.size ≤ U
  n4 : w.heap.size ≤ V
  n5 : X ≤ W.heap.size
  n6 : ∀ q, (Value.slice A4 k c4).ownBlock = some q → q < X
section
variable {O : Nat} {w W W' : World} {A4 : Option Addr} {c4 k : Nat} {kept : List Fac} {X U : Nat} {u : List Bool} {V : Nat} {at_ : List Int} {B : Nat} {A7 : Option Addr} {nn c7 : Nat} {out : List Fac}
theorem OutW.next (h : OutW O w W A4 c4 k kept X U u V at_ B A7 nn c7 out) (hb : Below W.heap.size W W') : OutW O w W' A4 c4 k kept X U u V at_ B A7 nn c7 out :=
  ⟨own_next h.r hb, h.u.next hb, h.v.next hb, h.b.next hb, h.o.next hb, own_next h.q hb, h.e.trans (hb.mono h.e.size), h.n0, h.n1, h.n2, h.n3, h.n4, Nat.le_trans h.n5 hb.size, h.n6⟩
theorem OutW.alloc (h : OutW O w W A4 c4 k kept X U u V at_ B A7 nn c7 out) (o : Obj) : OutW O w (W.alloc o) A4 c4 k kept X U u V at_ B A7 nn c7 out := h.next ((Below.refl _ _).alloc (Nat.le_refl _) _)
theorem OutW.drew (h : OutW O w W A4 c4 k kept X U u V at_ B A7 nn c7 out) : OutW O w W.drew A4 c4 k kept X U u V at_ B A7 nn c7 out := h.next (Below.refl _ _).drew
/-- the cells of a block made later put -/
theorem OutW.far {Z : Nat} (h : OutW O w W A4 c4 k kept X U u V at_ B A7 nn c7 out) (hg : W.grownBy W' (some Z)) (h1 : some Z ≠ (Value.slice A4 k c4).ownBlock) (h2 : some Z ≠ (Value.slice A7 nn c7).ownBlock) (h3 : Z ≠ U) (h4 : Z ≠ V) (h5 : Z ≠ B) (h6 : O < Z) :
    OutW O w W' A4 c4 k kept X U u V at_ B A7 nn c7 out := by
  have t : ∀ g : Nat, Z ≠ g → some g ≠ some Z := fun g hne e => hne (by injection e with e; exact e.symm)
  exact ⟨h.r.kept hg (.inr fun e => h1 e.symm), h.u.grown hg (t _ h3), h.v.grown hg (t _ h4), h.b.grown hg (t _ h5), h.o.grown hg (t _ (by omega)), h.q.kept hg (.inr fun e => h2 e.symm),
    h.e.grown hg h.e.size (fun q hq => by injection hq with hq; have := h.n0; omega), h.n0, h.n1, h.n2, h.n3, h.n4, Nat.le_trans h.n5 hg.size, h.n6⟩
/-- a number told -/
theorem OutW.tell (h : OutW O w W A4 c4 k kept X U u V at_ B A7 nn c7 out) (i : Nat) (z : Int) : OutW O w (W.setCell ⟨V, i, none⟩ (.int .i64 z)) A4 c4 k kept X U u V (at_.set i z) B A7 nn c7 out := by
  have hg := gb_set W V i (.int .i64 z)
  have nt : ∀ {g : Nat} {t : TypeId} {cs : Array Value}, Blk W g t cs → t ≠ 2 → some g ≠ some V := fun hB hne e => by
    injection e with e; subst e
    have := hB.symm.trans h.v
    injection this with this; injection this with _ this; exact hne this
  refine ⟨h.r.kept hg (.inr fun e => own_blk_ne h.r h.v (by decide) e.symm), h.u.grown hg (nt h.u (by decide)), ?_, h.b.grown hg (nt h.b (by decide)), h.o.grown hg (nt h.o (by decide)), h.q.kept hg (.inr fun e => own_blk_ne h.q h.v (by decide) e.symm),
    h.e.grown hg h.e.size (fun q hq => by injection hq with hq; have := h.n4; omega), h.n0, h.n1, h.n2, h.n3, h.n4, Nat.le_trans h.n5 hg.size, h.n6⟩
  have := h.v.set_ i (.int .i64 z)
  rw [intA_set] at this; exact this
/-- one rule more, told to the box as well -/
theorem OutW.push {A8 : Option Addr} {k8 c8 : Nat} {out' : List Fac} (h : OutW O w W A4 c4 k kept X U u V at_ B A7 nn c7 out) (hq : W'.ownsRow X 69 3 (.slice A8 k8 c8) k8 (out'.flatMap Fac.cells)) (hg : W.grownBy W' (Value.slice A7 nn c7).ownBlock) :
    OutW O w (W'.setCell ⟨B, 0, none⟩ (.slice A8 k8 c8)) A4 c4 k kept X U u V at_ B A8 k8 c8 out' := by
  have hb' : Blk W' B 26 #[.slice A7 nn c7] := h.b.grown hg (own_blk_ne h.q h.b (by decide))
  have hu' := h.u.grown hg (own_blk_ne h.q h.u (by decide))
  have hv' := h.v.grown hg (own_blk_ne h.q h.v (by decide))
  have ho' := h.o.grown hg (own_blk_ne h.q h.o (by decide))
  have hr' : W'.ownsRow w.heap.size 69 3 (.slice A4 k c4) k (kept.flatMap Fac.cells) := h.r.kept hg (by
    cases hv : (Value.slice A4 k c4).ownBlock with
    | none => exact .inl rfl
    | some q => exact .inr fun e => by have h1 := h.n6 q hv; have h2 := own_ge h.q q e.symm; omega)
  have he' := h.e.grown hg h.e.size (fun q hq' => by have := own_ge h.q q hq'; have := h.n0; have := h.n2; have := h.n1; omega)
  have hg2 := gb_set W' B 0 (.slice A8 k8 c8)
  have nt : ∀ {g : Nat} {t : TypeId} {cs : Array Value}, Blk W' g t cs → t ≠ 26 → some g ≠ some B := fun hB hne e => by
    injection e with e; subst e
    have := hB.symm.trans hb'
    injection this with this; injection this with _ this; exact hne this
  refine ⟨hr'.kept hg2 (.inr fun e => own_blk_ne hr' hb' (by decide) e.symm), hu'.grown hg2 (nt hu' (by decide)), hv'.grown hg2 (nt hv' (by decide)), ?_, ho'.grown hg2 (by intro e; injection e with e; have := h.n0; have := h.n1; omega), hq.kept hg2 (.inr fun e => own_blk_ne hq hb' (by decide) e.symm),
    he'.grown hg2 he'.size (fun q hq => by injection hq with hq; have := h.n0; have := h.n1; omega), h.n0, h.n1, h.n2, h.n3, h.n4, Nat.le_trans (Nat.le_trans h.n5 hg.size) hg2.size, h.n6⟩
  exact hb'.set_ 0 _
end
end Go.Proofs.Ytecnkmndmnefdaa


/-
  A grammar trimmed by the program.
-/
namespace Go.Proofs.Ytecnkmndmnefdaa
open Go.RowKit

/-- the first round of 'trimmed' under way: what the call has made -/
structure TrW (w W : World) (A : Option Addr) (n c k : Nat) (A4 : Option Addr) (c4 k6 : Nat) (A6 : Option Addr) (c6 : Nat) (kept : List Fac) (same : List Int) (m : List (Fac × Value)) : Prop where
  r : W.ownsRow w.heap.size 69 3 (.slice A4 k c4) k (kept.flatMap Fac.cells)
  s : W.ownsRow w.heap.size 2 1 (.slice A6 k6 c6) k6 (same.flatMap intE)
  m : MapIs W (w.heap.size + 3) Fac.val m
  g : Blk W w.heap.size 26 #[.slice A n c]
  o : Blk W (w.heap.size + 1) 26 #[.slice none 0 0]
  e : Below w.heap.size w W
section
variable {w W W' : World} {A : Option Addr} {n c k k6 : Nat} {A4 : Option Addr} {c4 : Nat} {A6 : Option Addr} {c6 : Nat} {kept : List Fac} {same : List Int} {m : List (Fac × Value)}
theorem TrW.next (h : TrW w W A n c k A4 c4 k6 A6 c6 kept same m) (hb : Below W.heap.size W W') : TrW w W' A n c k A4 c4 k6 A6 c6 kept same m :=
  ⟨own_next h.r hb, own_next h.s hb, h.m.next hb, h.g.next hb, h.o.next hb, h.e.trans (hb.mono h.e.size)⟩
theorem TrW.alloc (h : TrW w W A n c k A4 c4 k6 A6 c6 kept same m) (o : Obj) : TrW w (W.alloc o) A n c k A4 c4 k6 A6 c6 kept same m := h.next ((Below.refl _ _).alloc (Nat.le_refl _) _)
theorem TrW.drew (h : TrW w W A n c k A4 c4 k6 A6 c6 kept same m) : TrW w W.drew A n c k A4 c4 k6 A6 c6 kept same m := h.next (Below.refl _ _).drew
/-- all that the call has made so far lies below a block that it makes next -/
theorem TrW.bnd (h : TrW w W A n c k A4 c4 k6 A6 c6 kept same m) : (∀ q, (Value.slice A4 k c4).ownBlock = some q → q < W.heap.size) ∧ (∀ q, (Value.slice A6 k6 c6).ownBlock = some q → q < W.heap.size) ∧ w.heap.size + 3 < W.heap.size :=
  ⟨fun q hq => (h.r.lt q hq).2, fun q hq => (h.s.lt q hq).2, h.m.lt⟩
/-- an entry put into the map -/
theorem TrW.put {m' : List (Fac × Value)} (h : TrW w W A n c k A4 c4 k6 A6 c6 kept same m) (hm : MapIs W' (w.heap.size + 3) Fac.val m') (hg : W.grownBy W' (some (w.heap.size + 3))) (hb : Below w.heap.size w W') : TrW w W' A n c k A4 c4 k6 A6 c6 kept same m' :=
  have ne : ∀ {e sz n : Nat} {v : Value} {xs : List Value}, W.ownsRow w.heap.size e sz v n xs → v.ownBlock = none ∨ v.ownBlock ≠ some (w.heap.size + 3) := fun ho => by
    have := h.m.ne_own ho
    exact .inr fun e => this e.symm
  ⟨h.r.kept hg (ne h.r), h.s.kept hg (ne h.s), hm, h.g.grown hg (by intro e; injection e with e; omega), h.o.grown hg (by intro e; injection e with e; omega), hb⟩
/-- one rule more -/
theorem TrW.pushR {A8 : Option Addr} {k8 c8 : Nat} {kept' : List Fac} (h : TrW w W A n c k A4 c4 k6 A6 c6 kept same m) (ho : W'.ownsRow w.heap.size 69 3 (.slice A8 k8 c8) k8 (kept'.flatMap Fac.cells)) (hg : W.grownBy W' (Value.slice A4 k c4).ownBlock) :
    TrW w W' A n c k8 A8 c8 k6 A6 c6 kept' same m :=
  ⟨ho, h.s.kept hg (own_ne h.s h.r (by decide)), h.m.grown hg (h.m.ne_own h.r), h.g.grown hg (own_blk_ne h.r h.g (by decide)), h.o.grown hg (own_blk_ne h.r h.o (by decide)), h.e.grown hg h.e.size (own_ge h.r)⟩
/-- one number more -/
theorem TrW.pushS {A8 : Option Addr} {k8 c8 : Nat} {same' : List Int} (h : TrW w W A n c k A4 c4 k6 A6 c6 kept same m) (ho : W'.ownsRow w.heap.size 2 1 (.slice A8 k8 c8) k8 (same'.flatMap intE)) (hg : W.grownBy W' (Value.slice A6 k6 c6).ownBlock) :
    TrW w W' A n c k A4 c4 k8 A8 c8 kept same' m :=
  ⟨h.r.kept hg (own_ne h.r h.s (by decide)), ho, h.m.grown hg (h.m.ne_own h.s), h.g.grown hg (own_blk_ne h.s h.g (by decide)), h.o.grown hg (own_blk_ne h.s h.o (by decide)), h.e.grown hg h.e.size (own_ge h.s)⟩
/-- three cells of a block of another kind put -/
theorem TrW.box3 {B : Nat} (h : TrW w W A n c k A4 c4 k6 A6 c6 kept same m) (hB : w.heap.size ≤ B) (hb : (∀ q, (Value.slice A4 k c4).ownBlock = some q → q < B) ∧ (∀ q, (Value.slice A6 k6 c6).ownBlock = some q → q < B) ∧ w.heap.size + 3 < B) (x y z : Value) :
    TrW w (((W.setCell ⟨B, 0, none⟩ x).setCell ⟨B, 1, none⟩ y).setCell ⟨B, 2, none⟩ z) A n c k A4 c4 k6 A6 c6 kept same m := by
  obtain ⟨h4, h6, hm⟩ := hb
  have hg : W.grownBy (((W.setCell ⟨B, 0, none⟩ x).setCell ⟨B, 1, none⟩ y).setCell ⟨B, 2, none⟩ z) (some B) := gb_setCell (gb_setCell (gb_set W B 0 x) 1 y) 2 z
  have ne : ∀ (v : Value), (∀ q, v.ownBlock = some q → q < B) → v.ownBlock = none ∨ v.ownBlock ≠ some B := fun v hv => by
    cases hq : v.ownBlock with
    | none => exact .inl rfl
    | some q => exact .inr fun e => by have := hv q hq; injection e with e; omega
  exact ⟨h.r.kept hg (ne _ h4), h.s.kept hg (ne _ h6), h.m.grown hg (by intro e; injection e with e; omega), h.g.grown hg (by intro e; injection e with e; omega), h.o.grown hg (by intro e; injection e with e; omega),
    h.e.grown hg h.e.size (fun q hq => by injection hq with hq; omega)⟩
/-- a cell of a block made later put -/
theorem TrW.set1 {B : Nat} (h : TrW w W A n c k A4 c4 k6 A6 c6 kept same m) (hB : w.heap.size ≤ B) (hb : (∀ q, (Value.slice A4 k c4).ownBlock = some q → q < B) ∧ (∀ q, (Value.slice A6 k6 c6).ownBlock = some q → q < B) ∧ w.heap.size + 3 < B) (i : Nat) (x : Value) :
    TrW w (W.setCell ⟨B, i, none⟩ x) A n c k A4 c4 k6 A6 c6 kept same m := by
  obtain ⟨h4, h6, hm⟩ := hb
  have hg : W.grownBy (W.setCell ⟨B, i, none⟩ x) (some B) := gb_set W B i x
  have ne : ∀ (v : Value), (∀ q, v.ownBlock = some q → q < B) → v.ownBlock = none ∨ v.ownBlock ≠ some B := fun v hv => by
    cases hq : v.ownBlock with
    | none => exact .inl rfl
    | some q => exact .inr fun e => by have := hv q hq; injection e with e; omega
  exact ⟨h.r.kept hg (ne _ h4), h.s.kept hg (ne _ h6), h.m.grown hg (by intro e; injection e with e; omega), h.g.grown hg (by intro e; injection e with e; omega), h.o.grown hg (by intro e; injection e with e; omega),
    h.e.grown hg h.e.size (fun q hq => by injection hq with hq; omega)⟩
end
end Go.Proofs.Ytecnkmndmnefdaa


/-
  A grammar trimmed by the reference.
-/
namespace Go.Proofs.Ytecnkmndmnefdaa
open Go.RowKit

/-- the reference's first round under way: what the call has made -/
structure TsW (w W : World) (k : Nat) (A5 : Option Addr) (c5 k6 : Nat) (A4 : Option Addr) (c4 : Nat) (kept : List Fac) (same : List Int) : Prop where
  r : W.ownsRow w.heap.size 69 3 (.slice A5 k c5) k (kept.flatMap Fac.cells)
  s : W.ownsRow w.heap.size 2 1 (.slice A4 k6 c4) k6 (same.flatMap intE)
  o : Blk W w.heap.size 26 #[.slice none 0 0]
  e : Below w.heap.size w W
section
variable {w W W' : World} {k k6 : Nat} {A5 : Option Addr} {c5 : Nat} {A4 : Option Addr} {c4 : Nat} {kept : List Fac} {same : List Int}
theorem TsW.next (h : TsW w W k A5 c5 k6 A4 c4 kept same) (hb : Below W.heap.size W W') : TsW w W' k A5 c5 k6 A4 c4 kept same :=
  ⟨own_next h.r hb, own_next h.s hb, h.o.next hb, h.e.trans (hb.mono h.e.size)⟩
theorem TsW.alloc (h : TsW w W k A5 c5 k6 A4 c4 kept same) (o : Obj) : TsW w (W.alloc o) k A5 c5 k6 A4 c4 kept same := h.next ((Below.refl _ _).alloc (Nat.le_refl _) _)
theorem TsW.drew (h : TsW w W k A5 c5 k6 A4 c4 kept same) : TsW w W.drew k A5 c5 k6 A4 c4 kept same := h.next (Below.refl _ _).drew
theorem TsW.pushR {A8 : Option Addr} {k8 c8 : Nat} {kept' : List Fac} (h : TsW w W k A5 c5 k6 A4 c4 kept same) (ho : W'.ownsRow w.heap.size 69 3 (.slice A8 k8 c8) k8 (kept'.flatMap Fac.cells)) (hg : W.grownBy W' (Value.slice A5 k c5).ownBlock) :
    TsW w W' k8 A8 c8 k6 A4 c4 kept' same :=
  ⟨ho, h.s.kept hg (own_ne h.s h.r (by decide)), h.o.grown hg (own_blk_ne h.r h.o (by decide)), h.e.grown hg h.e.size (own_ge h.r)⟩
theorem TsW.pushS {A8 : Option Addr} {k8 c8 : Nat} {same' : List Int} (h : TsW w W k A5 c5 k6 A4 c4 kept same) (ho : W'.ownsRow w.heap.size 2 1 (.slice A8 k8 c8) k8 (same'.flatMap intE)) (hg : W.grownBy W' (Value.slice A4 k6 c4).ownBlock) :
    TsW w W' k A5 c5 k8 A8 c8 kept same' :=
  ⟨h.r.kept hg (own_ne h.r h.s (by decide)), ho, h.o.grown hg (own_blk_ne h.s h.o (by decide)), h.e.grown hg h.e.size (own_ge h.s)⟩
/-- a block made later put -/
theorem TsW.far {Z : Nat} (h : TsW w W k A5 c5 k6 A4 c4 kept same) (hg : W.grownBy W' (some Z)) (h1 : some Z ≠ (Value.slice A5 k c5).ownBlock) (h2 : some Z ≠ (Value.slice A4 k6 c4).ownBlock) (h3 : w.heap.size < Z) : TsW w W' k A5 c5 k6 A4 c4 kept same :=
  ⟨h.r.kept hg (.inr fun e => h1 e.symm), h.s.kept hg (.inr fun e => h2 e.symm), h.o.grown hg (by intro e; injection e with e; omega), h.e.grown hg h.e.size (fun q hq => by injection hq with hq; omega)⟩
theorem TsW.bnd (h : TsW w W k A5 c5 k6 A4 c4 kept same) : (∀ q, (Value.slice A5 k c5).ownBlock = some q → q < W.heap.size) ∧ (∀ q, (Value.slice A4 k6 c4).ownBlock = some q → q < W.heap.size) ∧ w.heap.size < W.heap.size :=
  ⟨fun q hq => (h.r.lt q hq).2, fun q hq => (h.s.lt q hq).2, h.o.lt⟩
end
theorem trR_set {at_ : List Int} {x : Fac} {i : Nat} {z : Int} (h : x.l.size = 0 → 0 ≤ x.a ∧ x.a < (i : Int) ∧ 0 ≤ x.b ∧ x.b < (i : Int)) : trR (at_.set i z) x = trR at_ x := by
  unfold trR
  by_cases h0 : x.l.size = 0
  · obtain ⟨a0, a1, b0, b1⟩ := h h0
    rw [if_pos h0, if_pos h0]
    simp only [List.getD_eq_getElem?_getD]
    rw [List.getElem?_set_ne (by omega), List.getElem?_set_ne (by omega)]
  · rw [if_neg h0, if_neg h0]
theorem fac_ext {f g : Fac} (h1 : f.l.toList = g.l.toList) (h2 : f.a = g.a) (h3 : f.b = g.b) : f = g := by
  cases f; cases g
  simp only at h1 h2 h3
  rw [tl_inj.1 h1, h2, h3]
theorem news1i {W : World} {g : Nat} {t : TypeId} {v : Int} (h : Blk W g t #[.int .i64 v]) : ∀ j u, ([v].flatMap intE)[j]? = some u → W.cell? ((⟨g, 0, none⟩ : Addr).add j) = some u := by
  intro j u hj
  have e : ((⟨g, 0, none⟩ : Addr).add j) = ⟨g, j, none⟩ := by
    simp only [Addr.add, Nat.zero_add]
    by_cases h0 : j = 0
    · subst h0; rfl
    · simp [h0]
  rw [e, h.cell j]
  simpa [intE] using hj
theorem hs_step {kept : List Fac} {same : List Int} (h : ∀ (j : Nat) (x : Fac), kept[j]? = some x → same.getD j 0 = ((kept.idxOf x : Nat) : Int)) (hl : same.length = kept.length) (y : Fac) :
    ∀ (j : Nat) (x : Fac), (kept ++ [y])[j]? = some x → (same ++ [((kept.idxOf y : Nat) : Int)]).getD j 0 = (((kept ++ [y]).idxOf x : Nat) : Int) := by
  intro j x hx
  by_cases e : j < kept.length
  · rw [List.getElem?_append_left e] at hx
    rw [List.getD_eq_getElem?_getD, List.getElem?_append_left (by omega), ← List.getD_eq_getElem?_getD, h j x hx, idx_app1 (List.mem_of_getElem? hx)]
  · have hj2 := (List.getElem?_eq_some_iff.1 hx).1
    simp only [List.length_append, List.length_singleton] at hj2
    obtain rfl : j = kept.length := by omega
    rw [List.getElem?_append_right (Nat.le_refl _), Nat.sub_self] at hx
    obtain rfl : y = x := by simpa using hx
    rw [List.getD_eq_getElem?_getD, List.getElem?_append_right (by omega), hl, Nat.sub_self, idx_app2]
    rfl
end Go.Proofs.Ytecnkmndmnefdaa


/-
  TrimGrammar on both sides.
-/
namespace Go.Proofs.Ytecnkmndmnefdaa
open Go.RowKit

/-- a grammar in new memory, and a code -/
def RetGC (w0 : World) (xs : List Fac) (k : Int) (e : Ending) (w' : World) : Prop :=
  ∃ A c, e = .returned (.tuple #[.agg #[.slice A xs.length c], .int .i64 k]) ∧ w'.ownsRow w0.heap.size 69 3 (.slice A xs.length c) xs.length (xs.flatMap Fac.cells) ∧ Below w0.heap.size w0 w'
def trimF (rs : List Fac) : List Fac := if (gOk rs).isSome then trimL rs else []
def trimC (rs : List Fac) : Int := if (gOk rs).isSome then 0 else 1
theorem outT_len (used : List Bool) : ∀ (ks : List Fac) (i : Nat) (out : List Fac) (at_ : List Int), (outT used i ks out at_).length ≤ out.length + ks.length
  | [], i, out, at_ => by simp [outT]
  | r :: ks, i, out, at_ => by
    rw [outT]
    split
    · have := outT_len used ks (i + 1) (out ++ [trR at_ r]) (at_.set i (out.length : Int))
      simp only [List.length_append, List.length_singleton] at this
      simp only [List.length_cons]; omega
    · have := outT_len used ks (i + 1) out at_
      simp only [List.length_cons]; omega
theorem trK_len : ∀ (rs kept : List Fac) (same : List Int), (trK rs kept same).1.length = kept.length + rs.length
  | [], kept, same => by simp [trK]
  | r :: rs, kept, same => by
    rw [trK, trK_len rs]; simp; omega
theorem trimF_len (rs : List Fac) : (trimF rs).length ≤ rs.length := by
  unfold trimF
  split
  · unfold trimL
    split
    · simp
    · have h1 := outT_len (useT (trK rs [] []).1 rs.length (use0 rs.length (trK rs [] []).2)) (trK rs [] []).1 0 [] (List.replicate rs.length 0)
      have h2 := trK_len rs [] []
      simp only [List.length_nil, Nat.zero_add] at h1 h2
      omega
  · simp
end Go.Proofs.Ytecnkmndmnefdaa


/-
  A grammar, if it is valid: in the program and in the reference.
-/
namespace Go.Proofs.Ytecnkmndmnefdaa
open Go.RowKit

/-- a grammar if it is valid, or the word that there is too much -/
def orLim (A : Option Addr) (n c : Nat) (b : Bool) : Value := bif b then .tuple #[.agg #[.slice A n c], .int .i64 0] else .tuple #[.agg #[.slice none 0 0], .int .i64 3]
def limF (rs : List Fac) : List Fac := if (gOk rs).isSome then rs else []
def limC (rs : List Fac) : Int := if (gOk rs).isSome then 0 else 3
theorem orLim_ret {w0 w w' : World} {A : Option Addr} {n c : Nat} {rs : List Fac} (hl : rs.length = n) (ho : w.ownsRow w0.heap.size 69 3 (.slice A n c) n (rs.flatMap Fac.cells)) (h0 : Below w0.heap.size w0 w) (hb : Below w.heap.size w w') :
    RetGC w0 (limF rs) (limC rs) (.returned (orLim A n c (gOk rs).isSome)) w' := by
  have h1 := h0.trans (hb.mono h0.size)
  unfold limF limC orLim
  rcases (gOk rs).isSome with _ | _
  · exact ⟨none, 0, rfl, World.ownsRow_nil _ _ _ _, h1⟩
  · exact ⟨A, c, by simp [hl], by simpa [hl] using own_next ho hb, h1⟩
theorem tuple2_ret {a b : Value} (h : a = b) : Ending.returned a = .returned b := by rw [h]
set_option maxHeartbeats 1000000 in
theorem l02Told_any (A : Option Addr) (n c : Nat) (rs : List Fac) (w : World) (hn : n ≤ 100000000) (hr : Rd w w.heap.size A n 3 Fac.cells rs) (hok : ∀ f ∈ rs, f.l.size ≤ maxLen) :
    Calls Try.prog 92 #[.agg #[.slice A n c]] w (Ret (orLim A n c (gOk rs).isSome) w) := by
  have HR := Lib.hid hr; clear hr
  have HO := Lib.hid hok; clear hok
  obtain ⟨b, hb⟩ : ∃ b, (gOk rs).isSome = b := ⟨_, rfl⟩
  rw [hb]
  have Hb := Lib.hid hb; clear hb
  have hT := Lib.hid (show orLim A n c b = bif b then .tuple #[.agg #[.slice A n c], .int .i64 0] else .tuple #[.agg #[.slice none 0 0], .int .i64 3] from rfl)
  generalize orLim A n c b = T at *
  go_enter Try.func92, Try.ntmps92
  go_wp2_with fail
  refine namedC fun w3 H3 => ?_
  have hb3 : Below w.heap.size w w3 := by rw [H3.out]; (repeat first | exact Below.refl _ _ | assumption | refine Below.drew ?_ | refine Below.alloc ?_ (by first | exact Nat.le_refl _ | (simp; done) | omega | (simp; omega)) _ | refine Below.setCell ?_ (by first | exact Nat.le_refl _ | (simp; done) | omega | (simp; omega)) _)
  have BG := Lib.hid (show Blk w3 w.heap.size 26 #[.slice A n c] by rw [H3.out]; exact (Blk.new _ _ _).alloc _)
  have BC := Lib.hid (show Blk w3 (w.heap.size + 1) 26 #[.slice none 0 0] by rw [H3.out]; simpa using Blk.new (w.alloc (.cells #[.slice A n c] 26)) 26 #[.slice none 0 0])
  clear H3
  refine (l02Ok_any w.heap.size A n c rs w3 BG.out.lt (BG.out.cell 0) hn (HR.out.next hb3) HO.out b Hb.out).mono ?_
  rintro e1 w4 ⟨rfl, hb4⟩
  have b4 := hb3.trans (hb4.mono hb3.size)
  have BC4 := BC.out.next hb4
  have BG4 := BG.out.next hb4
  have d4 := BC4.cell 0
  have f4 := BC4.frozen
  have l4 := BC4.lt
  have g4 := BG4.cell 0
  cases b
  · have B5 := BC4.set_ 0 (.slice none 0 0)
    have x5 : (w4.setCell ⟨w.heap.size + 1, 0, none⟩ (.slice none 0 0)).cell? ⟨w.heap.size + 1, 0, none⟩ = some (.slice none 0 0) := by rw [B5.cell 0]; rfl
    have b5 := b4.setCell (p := ⟨w.heap.size + 1, 0, none⟩) (by simp) (.slice none 0 0)
    clear B5 BC4 BG4
    go_wp2_with fail
    exact bodyPost_ret (v := .tuple #[.agg #[.slice none 0 0], .int .i64 3]) (by simp [results, Try.results92, go_sem, x5]) rfl ⟨by rw [hT.out]; rfl, b5⟩
  · have B5 := BC4.set_ 0 (.slice A n c)
    have x5 : (w4.setCell ⟨w.heap.size + 1, 0, none⟩ (.slice A n c)).cell? ⟨w.heap.size + 1, 0, none⟩ = some (.slice A n c) := by rw [B5.cell 0]; rfl
    have b5 := b4.setCell (p := ⟨w.heap.size + 1, 0, none⟩) (by simp) (.slice A n c)
    clear B5 BC4 BG4
    go_wp2_with fail
    exact bodyPost_ret (v := .tuple #[.agg #[.slice A n c], .int .i64 0]) (by simp [results, Try.results92, go_sem, x5]) rfl ⟨by rw [hT.out]; rfl, b5⟩
theorem l02Told_yes (A : Option Addr) (n c : Nat) (rs : List Fac) (w : World) (hn : n ≤ 100000000) (hr : Rd w w.heap.size A n 3 Fac.cells rs) (hok : ∀ f ∈ rs, f.l.size ≤ maxLen) (h : (gOk rs).isSome = true) :
    Calls Try.prog 92 #[.agg #[.slice A n c]] w (Ret (.tuple #[.agg #[.slice A n c], .int .i64 0]) w) := by
  have := l02Told_any A n c rs w hn hr hok
  rw [h] at this; exact this
theorem l02Told_no (A : Option Addr) (n c : Nat) (rs : List Fac) (w : World) (hn : n ≤ 100000000) (hr : Rd w w.heap.size A n 3 Fac.cells rs) (hok : ∀ f ∈ rs, f.l.size ≤ maxLen) (h : (gOk rs).isSome = false) :
    Calls Try.prog 92 #[.agg #[.slice A n c]] w (Ret (.tuple #[.agg #[.slice none 0 0], .int .i64 3]) w) := by
  have := l02Told_any A n c rs w hn hr hok
  rw [h] at this; exact this
end Go.Proofs.Ytecnkmndmnefdaa


/-
  The letters of a grammar replaced: what is made, and the code.
-/
namespace Go.Proofs.Ytecnkmndmnefdaa

def mapOk (rs : List Fac) (ws : List ByteArray) : Bool := (gOk rs).isSome && (decide (ws.length = 4) && ws.all okW)
def mapT (rs : List Fac) (ws : List ByteArray) : List Fac := trimL ((mapS2 rs ws).1.take ((lastI (mapS2 rs ws).2).toNat + 1))
def mapF (rs : List Fac) (ws : List ByteArray) : List Fac :=
  if mapOk rs ws = false then [] else if 400 < (mapS2 rs ws).1.length then [] else if (mapS2 rs ws).2.length = 0 ∨ lastI (mapS2 rs ws).2 < 0 then [] else limF (mapT rs ws)
def mapC (rs : List Fac) (ws : List ByteArray) : Int :=
  if mapOk rs ws = false then 1 else if 400 < (mapS2 rs ws).1.length then 3 else if (mapS2 rs ws).2.length = 0 ∨ lastI (mapS2 rs ws).2 < 0 then 0 else limC (mapT rs ws)
end Go.Proofs.Ytecnkmndmnefdaa


/-
  The word of a grammar whose letters are replaced.
-/
namespace Go.Proofs.Ytecnkmndmnefdaa

theorem full_pre {α : Type} (d : α) (F : Nat → α) (G : α → α → Fac → α) : ∀ (ys xs : List Fac) {p : Nat}, p < xs.length → (full d F G (xs ++ ys)).getD p d = (full d F G xs).getD p d
  | [], xs, p, _ => by rw [List.append_nil]
  | y :: ys, xs, p, h => by
    rw [show xs ++ y :: ys = (xs ++ [y]) ++ ys by simp, full_pre d F G ys (xs ++ [y]) (by simp; omega), full_old d F G xs y h]
theorem wds_pre (xs ys : List Fac) {p : Nat} (h : p < xs.length) : (wds (xs ++ ys)).getD p [] = (wds xs).getD p [] := full_pre [] wdF wdG ys xs h
theorem wds_take {rs : List Fac} {n p : Nat} (h : p < n) (hn : n ≤ rs.length) : (wds (rs.take n)).getD p [] = (wds rs).getD p [] := by
  have := wds_pre (rs.take n) (rs.drop n) (p := p) (by rw [List.length_take]; omega)
  rw [List.take_append_drop] at this
  exact this.symm
theorem wds_pair {rs : List Fac} (hwf : WF rs) {k : Nat} {r : Fac} (h : rs[k]? = some r) (h0 : r.l.size = 0) : (wds rs).getD k [] = (wds rs).getD r.a.toNat [] ++ (wds rs).getD r.b.toNat [] := full_pair [] wdF wdG hwf h h0
theorem wds_one {rs : List Fac} {k : Nat} {r : Fac} (h : rs[k]? = some r) {c : UInt8} (hl : r.l = ⟨#[c]⟩) : (wds rs).getD k [] = [c.toNat - 97] := by
  have := full_let [] wdF wdG h (by rw [hl]; show (1 : Nat) ≠ 0; omega)
  rw [hl] at this
  exact this
theorem wds_snoc {rs : List Fac} {a b : Int} (ha : 0 ≤ a ∧ a < rs.length) (hb : 0 ≤ b ∧ b < rs.length) (hwf : WF rs) : (wds (rs ++ [⟨⟨#[]⟩, a, b⟩])).getD rs.length [] = (wds rs).getD a.toNat [] ++ (wds rs).getD b.toNat [] := by
  have hr : (rs ++ [(⟨⟨#[]⟩, a, b⟩ : Fac)])[rs.length]? = some ⟨⟨#[]⟩, a, b⟩ := by simp
  rw [wds_pair (wf_snoc hwf ha hb) hr rfl, wds_pre _ _ (show a.toNat < rs.length by have := ha.1; have := ha.2; omega), wds_pre _ _ (show b.toNat < rs.length by have := hb.1; have := hb.2; omega)]
/-- rules that are raised -/
theorem wds_raise {xs ys : List Fac} (hx : WF xs) (hy : WF ys) : ∀ j, j < ys.length → (wds (xs ++ raiseL xs.length ys)).getD (xs.length + j) [] = (wds ys).getD j [] := by
  intro j
  induction j using Nat.strongRecOn with
  | ind j ih =>
    intro hj
    have hr : ys[j]? = some ys[j] := List.getElem?_eq_getElem hj
    have hz : (xs ++ raiseL xs.length ys)[xs.length + j]? = some (rsF xs.length ys[j]) := by
      rw [List.getElem?_append_right (by omega), Nat.add_sub_cancel_left]
      unfold raiseL
      rw [List.getElem?_map, hr]; rfl
    rcases hy j _ hr with ⟨h0, a0, a1, b0, b1⟩ | ⟨c, hc, hl, _, _⟩
    · have e : rsF xs.length ys[j] = ⟨ys[j].l, ys[j].a + xs.length, ys[j].b + xs.length⟩ := by unfold rsF; rw [if_pos h0]
      rw [e] at hz
      rw [wds_pair (wf_raise hx hy) hz h0, wds_pair hy hr h0]
      simp only
      rw [show (ys[j].a + (xs.length : Int)).toNat = xs.length + ys[j].a.toNat by omega, show (ys[j].b + (xs.length : Int)).toNat = xs.length + ys[j].b.toNat by omega, ih _ (by omega) (by omega), ih _ (by omega) (by omega)]
    · have e : rsF xs.length ys[j] = ys[j] := by unfold rsF; rw [if_neg (by rw [hl]; show ¬ (1 : Nat) = 0; omega)]
      rw [e] at hz
      rw [wds_one hz hl, wds_one hr hl]
def numC (c : UInt8) : Nat := c.toNat - 97
def nums (s : ByteArray) : List Nat := s.data.toList.map numC
theorem wds_pairs (w : List UInt8) : ∀ (cs : List UInt8) (b : Int) (xs : List Fac) (u : List Nat), WF xs → (∀ c ∈ cs, 0 ≤ atP w c ∧ atP w c < xs.length ∧ (wds xs).getD (atP w c).toNat [] = [numC c]) → 0 ≤ b → b < xs.length → (wds xs).getD b.toNat [] = u →
    (wds (xs ++ pairsP w cs b xs.length)).getD (if cs = [] then b.toNat else xs.length + cs.length - 1) [] = u ++ cs.map numC
  | [], b, xs, u, _, _, _, _, hu => by
    rw [show pairsP w [] b xs.length = [] from rfl, List.append_nil, if_pos rfl, hu]; simp
  | c :: cs, b, xs, u, hw, hc, b0, b1, hu => by
    have hcc := hc c (by simp)
    have hw2 := wf_snoc hw (a := b) (b := atP w c) ⟨b0, b1⟩ ⟨hcc.1, hcc.2.1⟩
    have hv := wds_snoc (rs := xs) (a := b) (b := atP w c) ⟨b0, b1⟩ ⟨hcc.1, hcc.2.1⟩ hw
    rw [hu, hcc.2.2] at hv
    have ih := wds_pairs w cs (xs.length : Int) (xs ++ [⟨⟨#[]⟩, b, atP w c⟩]) (u ++ [numC c]) hw2 (fun c' hc' => by
      have := hc c' (by simp [hc'])
      exact ⟨this.1, by simp; omega, by rw [wds_pre _ _ (by omega)]; exact this.2.2⟩) (by omega) (by simp; omega) (by rw [Int.toNat_natCast]; exact hv)
    simp only [List.length_append, List.length_singleton, List.append_assoc, List.singleton_append] at ih
    rw [if_neg (by simp)]
    show (wds (xs ++ ⟨⟨#[]⟩, b, atP w c⟩ :: pairsP w cs xs.length (xs.length + 1))).getD _ [] = _
    by_cases h : cs = []
    · subst h
      simp only [pairsP, if_true, Int.toNat_natCast, List.map_nil, List.append_nil, List.length_singleton, List.map_cons] at ih ⊢
      simpa using ih
    · rw [if_neg h] at ih
      rw [show xs.length + (c :: cs).length - 1 = xs.length + 1 + cs.length - 1 by simp only [List.length_cons]; omega, ih]
      simp
theorem plain_word {w : List UInt8} (hl : w.all letB = true) (h0 : w ≠ []) : (wds (plainL w)).getD ((plainL w).length - 1) [] = w.map numC := by
  unfold plainL
  split
  · exact absurd rfl h0
  · rename_i c cs
    have hm : ∀ c' ∈ c :: cs, letB c' = true := by simpa using hl
    have hlen : (lettersP (c :: cs)).length = (ksP (c :: cs)).length := by simp [lettersP]
    rw [← hlen]
    have hat : ∀ c' ∈ c :: cs, 0 ≤ atP (c :: cs) c' ∧ atP (c :: cs) c' < (lettersP (c :: cs)).length ∧ (wds (lettersP (c :: cs))).getD (atP (c :: cs) c').toNat [] = [numC c'] := fun c' hc' => by
      have h1 := atP_lt hc' (hm c' hc')
      refine ⟨h1.1, by rw [hlen]; exact h1.2, ?_⟩
      refine wds_one (r := ruleC c') (c := c') ?_ rfl
      unfold lettersP atP
      rw [Int.toNat_natCast, List.getElem?_map]
      have hi := mem_ks hc' (hm c' hc')
      rw [List.getElem?_eq_getElem (List.idxOf_lt_length_of_mem hi), List.getElem_idxOf]; rfl
    have := wds_pairs (c :: cs) cs (atP (c :: cs) c) (lettersP (c :: cs)) [numC c] (wf_letters _ fun _ h => ks_letB h) (fun c' hc' => hat c' (by simp [hc'])) (hat c (by simp)).1 (hat c (by simp)).2.1 (hat c (by simp)).2.2
    rw [List.length_append, pairsP_len]
    by_cases h : cs = []
    · subst h
      simp only [if_true, List.map_nil, List.append_nil, List.length_nil, Nat.add_zero, List.map_cons] at this ⊢
      have e : (lettersP [c]).length - 1 = (atP [c] c).toNat := by
        have h1 := hat c (by simp)
        have h2 : (lettersP [c]).length ≤ 1 := by
          rw [hlen]
          unfold ksP
          have : ∀ l : List UInt8, l.Nodup → (l.filter fun x => decide (x ∈ [c])).length ≤ 1 := fun l hl => by
            have : (l.filter fun x => decide (x ∈ [c])) = l.filter (fun x => x == c) := by
              apply List.filter_congr
              intro x _
              rw [Bool.eq_iff_iff]; simp
            rw [this, ← List.countP_eq_length_filter]
            have := List.nodup_iff_count.1 hl c
            exact this
          exact this _ (by decide)
        omega
      rw [e]; exact this
    · rw [if_neg h] at this
      rw [this]; simp
/-- the word with its letters replaced -/
def mapW (ws : List ByteArray) (u : List Nat) : List Nat := u.flatMap fun k => nums (ws.getD k ⟨#[]⟩)
theorem mapW_app (ws : List ByteArray) (u v : List Nat) : mapW ws (u ++ v) = mapW ws u ++ mapW ws v := by simp [mapW]
/-- what the letters' rules hold -/
structure MlW (rs : List Fac) (ws : List ByteArray) (s : List Fac × List Int) (k : Nat) : Prop where
  hi : ∀ i, k ≤ i → i < 4 → s.2.getD i 0 = -1
  lo : ∀ i, i < k → (s.2.getD i 0 < 0 → nums (ws.getD i ⟨#[]⟩) = [] ∨ usedL rs (lb i) = false) ∧ (0 ≤ s.2.getD i 0 → (wds s.1).getD (s.2.getD i 0).toNat [] = nums (ws.getD i ⟨#[]⟩) ∧ nums (ws.getD i ⟨#[]⟩) ≠ [])
theorem nums_nil {s : ByteArray} : nums s = [] ↔ s.size = 0 := by
  unfold nums
  rw [List.map_eq_nil_iff, ← byte_len, List.length_eq_zero_iff]
theorem MlW.step {rs : List Fac} {ws : List ByteArray} {s : List Fac × List Int} {k : Nat} (h : MlW rs ws s k) (hI : MlI s k) (hk : k < 4) {w : ByteArray} (hw : okW w = true) (he : ws.getD k ⟨#[]⟩ = w) : MlW rs ws (mlStep rs k w s) (k + 1) := by
  unfold mlStep
  split
  · rename_i hc
    obtain ⟨hl, hsz⟩ := okW_let hw
    have hne : w.data.toList ≠ [] := fun e => hc.1 (by rw [← byte_len, e]; rfl)
    have h2 := plainL_pos hne hl
    have hset : ∀ (v : Int) (i : Nat), (s.2.set k v).getD i 0 = if i = k then v else s.2.getD i 0 := fun v i => by
      rw [List.getD_eq_getElem?_getD, List.getElem?_set]
      by_cases e : k = i
      · subst e; rw [if_pos rfl, if_pos (by rw [hI.st]; exact hk), if_pos rfl]; rfl
      · rw [if_neg e, if_neg (fun q => e q.symm), ← List.getD_eq_getElem?_getD]
    refine ⟨fun i h1 h4 => ?_, fun i hi => ?_⟩
    · simp only
      rw [hset, if_neg (by omega)]; exact h.hi i (by omega) h4
    · simp only
      rw [hset]
      by_cases e : i = k
      · subst e
        rw [if_pos rfl, he]
        refine ⟨fun q => by omega, fun _ => ⟨?_, fun q => hc.1 (nums_nil.1 q)⟩⟩
        have e1 : ((((s.1.length + (plainL w.data.toList).length : Nat) : Int) - 1).toNat) = s.1.length + ((plainL w.data.toList).length - 1) := by omega
        rw [e1, wds_raise hI.wf (wf_plain hl) _ (by omega), plain_word hl hne]; rfl
      · rw [if_neg e]
        have := h.lo i (by omega)
        refine ⟨this.1, fun q => ?_⟩
        have hb := hI.b i (by omega)
        rw [wds_pre _ _ (by omega)]
        exact this.2 q
  · rename_i hc
    refine ⟨fun i h1 h4 => h.hi i (by omega) h4, fun i hi => ?_⟩
    by_cases e : i = k
    · subst e
      rw [he]
      have h1 := h.hi i (Nat.le_refl _) hk
      refine ⟨fun _ => ?_, fun q => by omega⟩
      by_cases h0 : w.size = 0
      · exact .inl (nums_nil.2 h0)
      · right
        cases hu : usedL rs (lb i) with
        | false => rfl
        | true => exact absurd ⟨h0, hu⟩ hc
    · exact h.lo i (by omega)
theorem MlW.go {rs : List Fac} {ws0 : List ByteArray} : ∀ (ws : List ByteArray) (k : Nat) (s : List Fac × List Int), MlW rs ws0 s k → MlI s k → k + ws.length ≤ 4 → (∀ w ∈ ws, okW w = true) → ws0.drop k = ws → MlW rs ws0 (mlGo rs k ws s) (k + ws.length)
  | [], _, _, h, _, _, _, _ => h
  | w :: ws, k, s, h, hI, hk, hw, hd => by
    simp only [List.length_cons] at hk ⊢
    have hx : ws0[k]? = some w := by
      have : (ws0.drop k)[0]? = some w := by rw [hd]; rfl
      rw [List.getElem?_drop] at this; simpa using this
    have := MlW.go (rs := rs) (ws0 := ws0) ws (k + 1) (mlStep rs k w s) (h.step hI (by omega) (hw w (by simp)) (by rw [List.getD_eq_getElem?_getD, hx]; rfl)) (hI.step (by omega) (hw w (by simp))) (by omega) (fun x hx => hw x (by simp [hx])) (by
      rw [← List.drop_drop, hd]; rfl)
    rw [show k + (ws.length + 1) = k + 1 + ws.length by omega]
    exact this
theorem MlW.nil (rs : List Fac) (ws : List ByteArray) : MlW rs ws ([], [-1, -1, -1, -1]) 0 := ⟨fun i _ hi => by
  rcases i with _ | _ | _ | _ | i
  · decide
  · decide
  · decide
  · decide
  · omega, fun i hi => by omega⟩
/-- what the rules that stand for others hold -/
def MrW (rs : List Fac) (ws : List ByteArray) (s : List Fac × List Int) (k : Nat) : Prop :=
  ∀ i, i < k → (s.2.getD i 0 < 0 → mapW ws ((wds rs).getD i []) = []) ∧ (0 ≤ s.2.getD i 0 → (wds s.1).getD (s.2.getD i 0).toNat [] = mapW ws ((wds rs).getD i []))
theorem MrW.step {rs : List Fac} {ws : List ByteArray} {st : List Int} {s0 s : List Fac × List Int} {n k : Nat} (hwf : WF rs) (h : MrW rs ws s k) (hI : MrI s n k) (hst : s0.2 = st) (hw : MlW rs ws s0 4) (hb : ∀ i, i < 4 → -1 ≤ st.getD i 0 ∧ st.getD i 0 < s0.1.length)
    (hpre : ∃ e, s.1 = s0.1 ++ e) {r : Fac} (hr : rs[k]? = some r) : MrW rs ws (mrStep st r s) (k + 1) ∧ ∃ e, (mrStep st r s).1 = s0.1 ++ e := by
  obtain ⟨e, he⟩ := hpre
  have old : ∀ (out : List Fac) (x : Int), (∃ q, out = s.1 ++ q) → ((x < 0 → mapW ws ((wds rs).getD k []) = []) ∧ (0 ≤ x → (wds out).getD x.toNat [] = mapW ws ((wds rs).getD k []))) → MrW rs ws (out, s.2 ++ [x]) (k + 1) := by
    intro out x ⟨q, hq⟩ hx i hi
    simp only
    rw [getD_snoc, hI.st]
    by_cases hik : i < k
    · rw [if_pos hik]
      have := h i hik
      refine ⟨this.1, fun q0 => ?_⟩
      have hbb := hI.b i hik
      rw [hq, wds_pre _ _ (by omega)]
      exact this.2 q0
    · obtain rfl : i = k := by omega
      rw [if_neg hik, if_pos rfl]
      exact hx
  unfold mrStep
  rcases hwf k r hr with ⟨h0, a0, a1, b0, b1⟩ | ⟨c, hc, hl, _, _⟩
  · rw [if_pos h0]
    have hwk := wds_pair hwf hr h0
    have hA := hI.b r.a.toNat (by omega)
    have hB := hI.b r.b.toNat (by omega)
    have wA := h r.a.toNat (by omega)
    have wB := h r.b.toNat (by omega)
    split
    · rename_i hn
      refine ⟨old _ _ ⟨[], by simp⟩ ?_, e, he⟩
      rw [hwk, mapW_app, wA.1 hn, List.nil_append]
      exact wB
    · split
      · rename_i hn1 hn
        refine ⟨old _ _ ⟨[], by simp⟩ ?_, e, he⟩
        rw [hwk, mapW_app, wB.1 hn, List.append_nil]
        exact wA
      · rename_i h1 h2
        refine ⟨old _ _ ⟨_, rfl⟩ ⟨fun q => by omega, fun _ => ?_⟩, e ++ [⟨⟨#[]⟩, s.2.getD r.a.toNat 0, s.2.getD r.b.toNat 0⟩], by rw [he, List.append_assoc]⟩
        rw [Int.toNat_natCast, wds_snoc ⟨by omega, hA.2⟩ ⟨by omega, hB.2⟩ hI.wf, wA.2 (by omega), wB.2 (by omega), hwk, mapW_app]
  · rw [if_neg (by rw [hl]; show ¬ (1 : Nat) = 0; omega)]
    refine ⟨old _ _ ⟨[], by simp⟩ ?_, e, he⟩
    have hq : letN r.l < 4 := by rw [hl]; exact letN_lt (s := ⟨#[c]⟩) hc
    have hwk : (wds rs).getD k [] = [letN r.l] := by rw [wds_one hr hl, hl]; rfl
    have hu : usedL rs (lb (letN r.l)) = true := by
      unfold usedL
      rw [List.any_eq_true]
      refine ⟨r, List.mem_of_getElem? hr, ?_⟩
      rw [decide_eq_true_eq, hl]
      congr 1
      have hn := letB_num hc
      have : lb (letN ⟨#[c]⟩) = c := by
        rw [← UInt8.toNat_inj, letN_one]
        unfold lb
        rw [UInt8.toNat_ofNat']; omega
      rw [this]
    have hlo := hw.lo (letN r.l) hq
    rw [hst] at hlo
    rw [hwk]
    have hmw : mapW ws [letN r.l] = nums (ws.getD (letN r.l) ⟨#[]⟩) := by simp [mapW]
    rw [hmw]
    refine ⟨fun q => ?_, fun q => ?_⟩
    · rcases hlo.1 q with q1 | q1
      · exact q1
      · rw [hu] at q1; cases q1
    · have := hb (letN r.l) hq
      rw [he, wds_pre _ _ (by omega)]
      exact (hlo.2 q).1
theorem mapOk_ws {rs : List Fac} {ws : List ByteArray} (h : mapOk rs ws = true) : ws.length = 4 ∧ (∀ w ∈ ws, okW w = true) ∧ (gOk rs).isSome = true := by
  unfold mapOk at h
  simp only [Bool.and_eq_true, decide_eq_true_eq, List.all_eq_true] at h
  exact ⟨h.2.1, h.2.2, h.1⟩
end Go.Proofs.Ytecnkmndmnefdaa


/-
  The word of a grammar whose letters are replaced: the law; grammars of few rules are valid.
-/
namespace Go.Proofs.Ytecnkmndmnefdaa

theorem trimL_most (rs : List Fac) : (trimL rs).length ≤ rs.length := by
  unfold trimL
  split
  · simp
  · have h1 := outT_len (useT (trK rs [] []).1 rs.length (use0 rs.length (trK rs [] []).2)) (trK rs [] []).1 0 [] (List.replicate rs.length 0)
    have h2 := trK_len rs [] []
    simp only [List.length_nil, Nat.zero_add] at h1 h2
    omega
theorem map_all {rs : List Fac} {ws : List ByteArray} (hok : mapOk rs ws = true) : WF rs ∧ MlI (mapS1 rs ws) 4 ∧ ∀ k, k ≤ rs.length →
    MrW rs ws (mrGo (mapS1 rs ws).2 (rs.take k) ((mapS1 rs ws).1, [])) k ∧ MrI (mrGo (mapS1 rs ws).2 (rs.take k) ((mapS1 rs ws).1, [])) (mapS1 rs ws).1.length k ∧ ∃ e, (mrGo (mapS1 rs ws).2 (rs.take k) ((mapS1 rs ws).1, [])).1 = (mapS1 rs ws).1 ++ e := by
  obtain ⟨hl, hw, hg⟩ := mapOk_ws hok
  obtain ⟨ls, hls⟩ := Option.isSome_iff_exists.1 hg
  have hwf := wf_of (gOk_lens hls).1
  have hI := MlI.go (rs := rs) ws 0 ([], [-1, -1, -1, -1]) MlI.nil (by omega) hw
  have hW := MlW.go (rs := rs) (ws0 := ws) ws 0 ([], [-1, -1, -1, -1]) (MlW.nil rs ws) MlI.nil (by omega) hw rfl
  rw [hl, Nat.zero_add] at hI hW
  have hI' : MlI (mapS1 rs ws) 4 := hI
  have hW' : MlW rs ws (mapS1 rs ws) 4 := hW
  refine ⟨hwf, hI', ?_⟩
  generalize mapS1 rs ws = s1 at *
  intro k
  induction k with
  | zero => exact fun _ => ⟨fun i hi => by omega, ⟨hI'.wf, rfl, fun i hi => by omega, Nat.le_refl _⟩, [], by simp [mrGo]⟩
  | succ k ih =>
    intro hk
    obtain ⟨h1, h2, h3⟩ := ih (by omega)
    have hr : rs[k]? = some rs[k] := List.getElem?_eq_getElem (by omega)
    rw [take_succ_at hr, mrGo_snoc]
    have hle : s1.1.length ≤ (mrGo s1.2 (rs.take k) (s1.1, [])).1.length := by
      obtain ⟨e, he⟩ := h3
      rw [he, List.length_append]; omega
    have s1b := fun i hi => hI'.b i hi
    obtain ⟨h4, _⟩ := h2.step (st := s1.2) (fun i hi => by have := s1b i hi; omega) (hwf k _ hr)
    obtain ⟨h5, h6⟩ := h1.step hwf h2 rfl hW' s1b h3 hr
    exact ⟨h5, h4, h6⟩
/-- a rule's word is at most twice as long as the longest before it -/
theorem wds_pow {rs : List Fac} (hwf : WF rs) : ∀ k, k < rs.length → ((wds rs).getD k []).length ≤ 2 ^ k := by
  intro k
  induction k using Nat.strongRecOn with
  | ind k ih =>
    intro hk
    have hr : rs[k]? = some rs[k] := List.getElem?_eq_getElem hk
    rcases hwf k _ hr with ⟨h0, a0, a1, b0, b1⟩ | ⟨c, _, hl, _, _⟩
    · rw [wds_pair hwf hr h0, List.length_append]
      have e1 := ih rs[k].a.toNat (by omega) (by omega)
      have e2 := ih rs[k].b.toNat (by omega) (by omega)
      obtain ⟨m, rfl⟩ : ∃ m, k = m + 1 := ⟨k - 1, by omega⟩
      have p1 : 2 ^ rs[m + 1].a.toNat ≤ 2 ^ m := Nat.pow_le_pow_right (by omega) (by omega)
      have p2 : 2 ^ rs[m + 1].b.toNat ≤ 2 ^ m := Nat.pow_le_pow_right (by omega) (by omega)
      rw [Nat.pow_succ]; omega
    · rw [wds_one hr hl]
      exact Nat.one_le_two_pow
theorem wds_lens {rs : List Fac} (hwf : WF rs) {k : Nat} (hk : k < rs.length) : (full 0 lenF lenG rs).getD k 0 = (((wds rs).getD k []).length : Int) :=
  full_hom (d := (0 : Int)) (F := lenF) (G := lenG) hwf (fun u => (u.length : Int)) (fun k _ => rfl) (fun u v r _ _ _ _ => by simp [lenG]) k hk
theorem ok_of {rs : List Fac} (hwf : WF rs) (hn : rs.length ≤ 400) (hb : ∀ k, k < rs.length → ((wds rs).getD k []).length ≤ 1000000000000000) : (gOk rs).isSome = true := by
  unfold gOk
  rw [if_neg (by omega)]
  exact gLens_of hwf (fun k hk => by rw [wds_lens hwf hk]; have := hb k hk; omega) rs.length 0 (by omega)
theorem small_ok {rs : List Fac} (hwf : WF rs) (hn : rs.length ≤ 49) : (gOk rs).isSome = true :=
  ok_of hwf (by omega) fun k hk => by
    have h1 := wds_pow hwf k hk
    have h2 : 2 ^ k ≤ 2 ^ 48 := Nat.pow_le_pow_right (by omega) (by omega)
    have h3 : (2 : Nat) ^ 48 ≤ 1000000000000000 := by decide
    omega
theorem trim_word {rs : List Fac} (hwf : WF rs) (h0 : 0 < rs.length) : WF (trimL rs) ∧ 0 < (trimL rs).length ∧ (trimL rs).length ≤ rs.length ∧ wdN (trimL rs) = wdN rs := by
  obtain ⟨h1, h2, h3, _⟩ := trim_val [] wdF wdG (fun _ _ _ _ => rfl) hwf h0
  have h4 : (trimL rs).length ≤ rs.length := trimL_most rs
  refine ⟨h1, h2, h4, ?_⟩
  unfold wdN
  rw [if_neg (by intro e; rw [e] at h2; simp at h2), if_neg (by intro e; rw [e] at h0; simp at h0)]
  exact h3
/-- the code is told -/
theorem map_word {rs : List Fac} {ws : List ByteArray} (hok : mapOk rs ws = true) (hC : mapC rs ws = 0) : (gOk (mapF rs ws)).isSome = true ∧ wdN (mapF rs ws) = mapW ws (wdN rs) := by
  obtain ⟨hwf, hI, hall⟩ := map_all hok
  obtain ⟨h1, h2, _⟩ := hall rs.length (Nat.le_refl _)
  rw [List.take_of_length_le (Nat.le_refl _)] at h1 h2
  unfold mapC at hC
  unfold mapF
  rw [if_neg (by rw [hok]; decide)] at hC ⊢
  have hS : mapS2 rs ws = mrGo (mapS1 rs ws).2 rs ((mapS1 rs ws).1, []) := rfl
  rw [← hS] at h1 h2
  unfold mapT at hC ⊢
  generalize mapS2 rs ws = s2 at *
  split at hC
  · cases hC
  rename_i h400
  rw [if_neg h400]
  have hlen := h2.st
  by_cases hz : s2.2.length = 0 ∨ lastI s2.2 < 0
  · rw [if_pos hz]
    refine ⟨rfl, ?_⟩
    have hw0 : wdN ([] : List Fac) = [] := rfl
    rw [hw0]
    unfold wdN
    split
    · rfl
    · rename_i hne
      have hpos : 0 < rs.length := List.length_pos_iff.2 hne
      rcases hz with hz | hz
      · omega
      · have := (h1 (rs.length - 1) (by omega)).1 (by unfold lastI at hz; rw [hlen] at hz; exact hz)
        exact this.symm
  · rw [if_neg hz] at hC ⊢
    have hne : rs ≠ [] := fun e => hz (.inl (by rw [hlen, e]; rfl))
    have hpos : 0 < rs.length := List.length_pos_iff.2 hne
    have hsl0 : 0 ≤ lastI s2.2 := by
      rcases Int.lt_or_le (lastI s2.2) 0 with h | h
      · exact absurd (.inr h) hz
      · exact h
    have hsl1 : lastI s2.2 < s2.1.length := by
      have := h2.b (rs.length - 1) (by omega)
      unfold lastI
      rw [hlen]; exact this.2
    unfold limC at hC
    unfold limF
    have hg : (gOk (trimL (s2.1.take ((lastI s2.2).toNat + 1)))).isSome = true := by
      rcases hb : (gOk (trimL (s2.1.take ((lastI s2.2).toNat + 1)))).isSome with _ | _
      · rw [hb] at hC; exact absurd hC (by decide)
      · rfl
    rw [hg, if_pos rfl]
    refine ⟨hg, ?_⟩
    have hwt := wf_take h2.wf ((lastI s2.2).toNat + 1)
    have hlt : (s2.1.take ((lastI s2.2).toNat + 1)).length = (lastI s2.2).toNat + 1 := by rw [List.length_take]; omega
    obtain ⟨_, _, _, e⟩ := trim_word hwt (by omega)
    rw [e]
    have hv := (h1 (rs.length - 1) (by omega)).2 (by unfold lastI at hsl0; rw [hlen] at hsl0; exact hsl0)
    unfold wdN
    rw [if_neg (by intro q; rw [q] at hlt; simp at hlt), if_neg hne, hlt, Nat.add_sub_cancel, wds_take (by omega) (by omega), ← hv]
    unfold lastI
    rw [hlen]
/-- few rules, short words: there is no limit -/
theorem map_small {rs : List Fac} {ws : List ByteArray} (hok : mapOk rs ws = true) (hn : (mapS2 rs ws).1.length ≤ 49) : mapC rs ws = 0 := by
  obtain ⟨hwf, hI, hall⟩ := map_all hok
  obtain ⟨h1, h2, _⟩ := hall rs.length (Nat.le_refl _)
  rw [List.take_of_length_le (Nat.le_refl _)] at h1 h2
  have hS : mapS2 rs ws = mrGo (mapS1 rs ws).2 rs ((mapS1 rs ws).1, []) := rfl
  rw [← hS] at h1 h2
  unfold mapC mapT
  rw [if_neg (by rw [hok]; decide), if_neg (by omega)]
  generalize mapS2 rs ws = s2 at *
  split
  · rfl
  · rename_i hz
    have hlen := h2.st
    have hpos : 0 < rs.length := by
      rcases Nat.eq_zero_or_pos rs.length with h | h
      · exact absurd (.inl (by omega)) hz
      · exact h
    have hsl0 : 0 ≤ lastI s2.2 := by
      rcases Int.lt_or_le (lastI s2.2) 0 with h | h
      · exact absurd (.inr h) hz
      · exact h
    have hsl1 : lastI s2.2 < s2.1.length := by
      have := h2.b (rs.length - 1) (by omega)
      unfold lastI
      rw [hlen]; exact this.2
    have hwt := wf_take h2.wf ((lastI s2.2).toNat + 1)
    have hlt : (s2.1.take ((lastI s2.2).toNat + 1)).length = (lastI s2.2).toNat + 1 := by rw [List.length_take]; omega
    obtain ⟨e1, _, e3, _⟩ := trim_word hwt (by omega)
    unfold limC
    rw [small_ok e1 (by omega)]; rfl
end Go.Proofs.Ytecnkmndmnefdaa


/-
  Grammars joined, turned and repeated: the plain part.
-/
namespace Go.Proofs.Ytecnkmndmnefdaa

theorem wdN_pos {rs : List Fac} (h : 0 < rs.length) : wdN rs = (wds rs).getD (rs.length - 1) [] := by
  unfold wdN
  rw [if_neg (by intro e; rw [e] at h; simp at h)]
def joinL (gs hs : List Fac) : List Fac :=
  if gs.length = 0 then hs else if hs.length = 0 then gs else (gs ++ raiseL gs.length hs) ++ [⟨⟨#[]⟩, (gs.length : Int) - 1, (gs.length : Int) + hs.length - 1⟩]
theorem join_wf {gs hs : List Fac} (hg : WF gs) (hh : WF hs) : WF (joinL gs hs) := by
  unfold joinL
  split
  · exact hh
  · split
    · exact hg
    · exact wf_snoc (wf_raise hg hh) ⟨by omega, by simp only [List.length_append, raiseL_len]; omega⟩ ⟨by omega, by simp only [List.length_append, raiseL_len]; omega⟩
theorem join_word {gs hs : List Fac} (hg : WF gs) (hh : WF hs) : wdN (joinL gs hs) = wdN gs ++ wdN hs := by
  unfold joinL
  split
  · rename_i h
    have : gs = [] := List.eq_nil_of_length_eq_zero h
    subst this; rfl
  · rename_i h0
    split
    · rename_i h
      have : hs = [] := List.eq_nil_of_length_eq_zero h
      subst this
      rw [show wdN [] = [] from rfl, List.append_nil]
    · rename_i h1
      have hw := wf_raise hg hh
      have hl : (gs ++ raiseL gs.length hs).length = gs.length + hs.length := by simp [raiseL_len]
      have e := wds_snoc (rs := gs ++ raiseL gs.length hs) (a := (gs.length : Int) - 1) (b := (gs.length : Int) + hs.length - 1) ⟨by omega, by rw [hl]; omega⟩ ⟨by omega, by rw [hl]; omega⟩ hw
      rw [wdN_pos (by simp only [List.length_append, List.length_singleton]; omega), List.length_append, List.length_singleton, Nat.add_sub_cancel, e, wdN_pos (by omega), wdN_pos (by omega)]
      rw [show ((gs.length : Int) - 1).toNat = gs.length - 1 by omega, show ((gs.length : Int) + hs.length - 1).toNat = gs.length + (hs.length - 1) by omega, wds_pre _ _ (by omega), wds_raise hg hh _ (by omega)]
/-- turned -/
def turnL (rs : List Fac) : List Fac := rs.map fun r => ⟨r.l, r.b, r.a⟩
theorem turn_len (rs : List Fac) : (turnL rs).length = rs.length := by simp [turnL]
theorem turn_at {rs : List Fac} {k : Nat} {r : Fac} (h : rs[k]? = some r) : (turnL rs)[k]? = some ⟨r.l, r.b, r.a⟩ := by unfold turnL; rw [List.getElem?_map, h]; rfl
theorem turn_wf {rs : List Fac} (hwf : WF rs) : WF (turnL rs) := fun k r hr => by
  unfold turnL at hr
  rw [List.getElem?_map] at hr
  obtain ⟨x, hx, rfl⟩ := Option.map_eq_some_iff.1 hr
  rcases hwf k x hx with ⟨h0, a0, a1, b0, b1⟩ | ⟨c, hc, hl, ha, hb⟩
  · exact .inl ⟨h0, b0, b1, a0, a1⟩
  · exact .inr ⟨c, hc, hl, hb, ha⟩
theorem turn_wds {rs : List Fac} (hwf : WF rs) : ∀ k, k < rs.length → (wds (turnL rs)).getD k [] = ((wds rs).getD k []).reverse := by
  intro k
  induction k using Nat.strongRecOn with
  | ind k ih =>
    intro hk
    have hr : rs[k]? = some rs[k] := List.getElem?_eq_getElem hk
    have ht := turn_at hr
    rcases hwf k _ hr with ⟨h0, a0, a1, b0, b1⟩ | ⟨c, hc, hl, ha, hb⟩
    · rw [wds_pair (turn_wf hwf) ht h0, wds_pair hwf hr h0, List.reverse_append]
      simp only
      rw [ih _ (by omega) (by omega), ih _ (by omega) (by omega)]
    · rw [wds_one ht hl, wds_one hr hl]; rfl
theorem turn_word {rs : List Fac} (hwf : WF rs) : wdN (turnL rs) = (wdN rs).reverse := by
  by_cases h : rs.length = 0
  · have : rs = [] := List.eq_nil_of_length_eq_zero h
    subst this; rfl
  · rw [wdN_pos (by rw [turn_len]; omega), wdN_pos (by omega), turn_len, turn_wds hwf _ (by omega)]
/-- one digit more of the number of times -/
def powS (root : Int) (rs : List Fac) (b : Bool) : List Fac :=
  if b then (rs ++ [⟨⟨#[]⟩, (rs.length : Int) - 1, (rs.length : Int) - 1⟩]) ++ [⟨⟨#[]⟩, (rs.length : Int), root⟩] else rs ++ [⟨⟨#[]⟩, (rs.length : Int) - 1, (rs.length : Int) - 1⟩]
def rep (u : List Nat) : Nat → List Nat
  | 0 => []
  | n + 1 => rep u n ++ u
theorem rep_add (u : List Nat) (m : Nat) : ∀ n, rep u (m + n) = rep u m ++ rep u n
  | 0 => by simp [rep]
  | n + 1 => by
    show rep u (m + n) ++ u = rep u m ++ (rep u n ++ u)
    rw [rep_add u m n, List.append_assoc]
theorem rep_len (u : List Nat) : ∀ n, (rep u n).length = n * u.length
  | 0 => by simp [rep]
  | n + 1 => by show (rep u n ++ u).length = _; rw [List.length_append, rep_len u n, Nat.succ_mul]
/-- what holds under way: n times the word -/
structure PowI (gs rs : List Fac) (n : Nat) : Prop where
  wf : WF rs
  pre : ∃ e, rs = gs ++ e
  pos : 0 < gs.length
  w : wdN rs = rep (wdN gs) n
theorem PowI.first {gs : List Fac} (hg : WF gs) (h0 : 0 < gs.length) : PowI gs gs 1 := ⟨hg, ⟨[], by simp⟩, h0, by simp [rep]⟩
theorem PowI.step {gs rs : List Fac} {n : Nat} (h : PowI gs rs n) (b : Bool) : PowI gs (powS ((gs.length : Int) - 1) rs b) (2 * n + b.toNat) := by
  obtain ⟨e, he⟩ := h.pre
  have hp := h.pos
  have hl : gs.length ≤ rs.length := by rw [he, List.length_append]; omega
  have ha : 0 ≤ (rs.length : Int) - 1 ∧ (rs.length : Int) - 1 < rs.length := ⟨by omega, by omega⟩
  have w1 := wf_snoc h.wf ha ha
  have e1 := wds_snoc (rs := rs) ha ha h.wf
  have hlast : (wds rs).getD ((rs.length : Int) - 1).toNat [] = rep (wdN gs) n := by rw [← h.w, wdN_pos (by omega), show ((rs.length : Int) - 1).toNat = rs.length - 1 by omega]
  rw [hlast, ← rep_add, show n + n = 2 * n by omega] at e1
  cases b with
  | false =>
    refine ⟨w1, ⟨e ++ [⟨⟨#[]⟩, (rs.length : Int) - 1, (rs.length : Int) - 1⟩], by show rs ++ _ = _; rw [he, List.append_assoc]⟩, hp, ?_⟩
    show wdN (rs ++ [_]) = _
    rw [wdN_pos (by simp), List.length_append, List.length_singleton, Nat.add_sub_cancel, e1]; rfl
  | true =>
    have hl2 : (rs ++ [(⟨⟨#[]⟩, (rs.length : Int) - 1, (rs.length : Int) - 1⟩ : Fac)]).length = rs.length + 1 := by simp
    have hb1 : 0 ≤ (rs.length : Int) ∧ (rs.length : Int) < (rs ++ [(⟨⟨#[]⟩, (rs.length : Int) - 1, (rs.length : Int) - 1⟩ : Fac)]).length := ⟨by omega, by rw [hl2]; omega⟩
    have hb2 : 0 ≤ (gs.length : Int) - 1 ∧ (gs.length : Int) - 1 < (rs ++ [(⟨⟨#[]⟩, (rs.length : Int) - 1, (rs.length : Int) - 1⟩ : Fac)]).length := ⟨by omega, by rw [hl2]; omega⟩
    refine ⟨wf_snoc w1 hb1 hb2, ⟨e ++ [⟨⟨#[]⟩, (rs.length : Int) - 1, (rs.length : Int) - 1⟩] ++ [⟨⟨#[]⟩, (rs.length : Int), (gs.length : Int) - 1⟩], by show (rs ++ _) ++ _ = _; rw [he]; simp only [List.append_assoc]⟩, hp, ?_⟩
    have e2 := wds_snoc (rs := rs ++ [(⟨⟨#[]⟩, (rs.length : Int) - 1, (rs.length : Int) - 1⟩ : Fac)]) hb1 hb2 w1
    show wdN ((rs ++ [_]) ++ [_]) = _
    rw [wdN_pos (by simp), List.length_append, List.length_singleton, Nat.add_sub_cancel, e2, Int.toNat_natCast, e1]
    have e3 : (wds (rs ++ [(⟨⟨#[]⟩, (rs.length : Int) - 1, (rs.length : Int) - 1⟩ : Fac)])).getD ((gs.length : Int) - 1).toNat [] = wdN gs := by
      rw [wds_pre _ _ (by omega), he, wds_pre _ _ (by omega), wdN_pos hp, show ((gs.length : Int) - 1).toNat = gs.length - 1 by omega]
    rw [e3]; rfl
end Go.Proofs.Ytecnkmndmnefdaa
