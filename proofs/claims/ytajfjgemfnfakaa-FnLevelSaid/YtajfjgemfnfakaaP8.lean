/-
  Texts of this claim, merged: Ints StrS IdxS MapP MapS Join P6Word P6G Huge P6H LtC Law.
-/
import Derived.Test.YtajfjgemfnfakaaP7
import Derived.ProofKit
import Derived.OpenShut
import Derived.JoinedCond
import Derived.Carry
import Derived.Deep.Slices
import Derived.Deep.Fields
import Derived.ChangeSame
import Derived.ChangeSlices
import Derived.SliceStrings
import Derived.Lib.SmallJoins


/-
  Lists of numbers copied and compared.
-/
namespace Go.Proofs.Ytajfjgemfnfakaa
open Go.RowKit

theorem fill1 {α : Type} {enc : α → List Value} {cs : Array Value} {n k : Nat} {xs : List α} {x : α} {v : Value} (hs : cs.size = n * 1) (hk : k < n) (hx : xs[k]? = some x) (he : enc x = [v])
    (hc : ∀ i y, i < k → xs[i]? = some y → ∀ j, j < 1 → cs[i * 1 + j]? = (enc y)[j]?) :
    (cs.setIfInBounds k v).size = n * 1 ∧ ∀ i y, i < k + 1 → xs[i]? = some y → ∀ j, j < 1 → (cs.setIfInBounds k v)[i * 1 + j]? = (enc y)[j]? := by
  refine ⟨by simpa using hs, fun i y hi hy j hj => ?_⟩
  obtain rfl : j = 0 := by omega
  by_cases h : i = k
  · subst h
    obtain rfl : x = y := by rw [hx] at hy; exact Option.some.inj hy
    rw [he]
    have : i < cs.size := by omega
    simp [this]
  · rw [← hc i y (by omega) hy 0 hj]
    rw [Array.getElem?_setIfInBounds_ne (by omega)]

def eqInts : List Int → List Int → Bool
  | x :: r, y :: s => decide (x = y) && eqInts r s
  | _, _ => true
theorem eqInts_eq : ∀ (a b : List Int), a.length = b.length → eqInts a b = decide (a = b)
  | [], [], _ => rfl
  | x :: r, y :: s, h => by
    rw [eqInts, eqInts_eq r s (by simpa using h)]
    by_cases h1 : x = y <;> by_cases h2 : r = s <;> simp [h1, h2]
end Go.Proofs.Ytajfjgemfnfakaa


/-
  Equality of lists of texts, and whether marks are still there.
-/
namespace Go.Proofs.Ytajfjgemfnfakaa
open Go.RowKit

def eqStrs : List ByteArray → List ByteArray → Bool
  | x :: r, y :: s => decide (x = y) && eqStrs r s
  | _, _ => true
theorem eqStrs_eq : ∀ (a b : List ByteArray), a.length = b.length → eqStrs a b = decide (a = b)
  | [], [], _ => rfl
  | x :: r, y :: s, h => by
    rw [eqStrs, eqStrs_eq r s (by simpa using h)]
    by_cases h1 : x = y <;> by_cases h2 : r = s <;> simp [h1, h2]

end Go.Proofs.Ytajfjgemfnfakaa


/-
  slices.IndexFunc and slices.ContainsFunc over texts; lists of texts measured and copied.
-/
namespace Go.Proofs.Ytajfjgemfnfakaa
open Go.RowKit

theorem info_str : (Try.prog.info? 9).map (fun i => (i.zero, i.size, i.bytes)) = some (some (.string .empty), 1, 16) := by kernel_rfl
/-- the rest of the measure of texts -/
def szStrs : Int → List ByteArray → Int
  | left, [] => left
  | left, s :: r => if left - s.size < 0 then -1 else szStrs (left - s.size) r
def szStrAll (left : Int) (ss : List ByteArray) : Int := if left < ss.length then -1 else szStrs (left - ss.length) ss
theorem szStrs_le : ∀ (ss : List ByteArray) (left : Int), 0 ≤ szStrs left ss → szStrs left ss ≤ left ∧ ∀ s ∈ ss, (s.size : Int) ≤ left
  | [], left, h => ⟨Int.le_refl _, by simp⟩
  | s :: r, left, h => by
    unfold szStrs at h ⊢
    split
    · rename_i h1; rw [if_pos h1] at h; omega
    · rename_i h1
      rw [if_neg h1] at h
      have ⟨h2, h3⟩ := szStrs_le r _ h
      refine ⟨by omega, fun x hx => ?_⟩
      rcases List.mem_cons.1 hx with rfl | hx
      · omega
      · have := h3 x hx; omega
theorem szStrAll_le {left : Int} {ss : List ByteArray} (h : 0 ≤ szStrAll left ss) : szStrAll left ss ≤ left ∧ (ss.length : Int) ≤ left ∧ ∀ s ∈ ss, (s.size : Int) ≤ left := by
  unfold szStrAll at h ⊢
  split
  · rename_i h1; rw [if_pos h1] at h; omega
  · rename_i h1
    rw [if_neg h1] at h
    have ⟨h2, h3⟩ := szStrs_le ss _ h
    exact ⟨by omega, by omega, fun s hs => by have := h3 s hs; omega⟩
end Go.Proofs.Ytajfjgemfnfakaa


/-
  The letters of a grammar replaced, in the program.
-/
namespace Go.Proofs.Ytajfjgemfnfakaa
open Go.RowKit

theorem trR_sz (at_ : List Int) {r : Fac} (h : r.l.size ≤ 1) : (trR at_ r).l.size ≤ 1 := by
  unfold trR
  split
  · show 0 ≤ 1; omega
  · exact h
theorem outT_sz (used : List Bool) : ∀ (ks : List Fac) (i : Nat) (out : List Fac) (at_ : List Int), (∀ f ∈ ks, f.l.size ≤ 1) → (∀ f ∈ out, f.l.size ≤ 1) → ∀ f ∈ outT used i ks out at_, f.l.size ≤ 1
  | [], i, out, at_, _, ho => ho
  | r :: ks, i, out, at_, hk, ho => by
    rw [outT]
    have hr := hk r (by simp)
    have hk' : ∀ f ∈ ks, f.l.size ≤ 1 := fun f hf => hk f (by simp [hf])
    split
    · refine outT_sz used ks _ _ _ hk' fun f hf => ?_
      rcases List.mem_append.1 hf with h | h
      · exact ho f h
      · obtain rfl : f = trR at_ r := by simpa using h
        exact trR_sz _ hr
    · exact outT_sz used ks _ _ _ hk' ho
theorem trimL_sz {rs : List Fac} (hwf : WF rs) : ∀ f ∈ trimL rs, f.l.size ≤ 1 := by
  unfold trimL
  split
  · simp
  · refine outT_sz _ _ _ _ _ (fun f hf => ?_) (by simp)
    obtain ⟨j, hj⟩ := List.mem_iff_getElem?.1 hf
    have := (trK_I hwf 0 [] [] TrI.nil rfl (by omega)).1.k j f (by simpa using hj)
    rcases this with ⟨h0, _⟩ | ⟨c, _, hl, _⟩
    · omega
    · rw [hl]; show 1 ≤ 1; omega
theorem trK_len' : ∀ (rs kept : List Fac) (same : List Int), (trK rs kept same).1.length = kept.length + rs.length
  | [], kept, same => by simp [trK]
  | r :: rs, kept, same => by
    rw [trK, trK_len' rs]; simp; omega
theorem trimL_le (rs : List Fac) : (trimL rs).length ≤ rs.length := by
  unfold trimL
  split
  · simp
  · have h1 := outT_len (useT (trK rs [] []).1 rs.length (use0 rs.length (trK rs [] []).2)) (trK rs [] []).1 0 [] (List.replicate rs.length 0)
    have h2 := trK_len' rs [] []
    simp only [List.length_nil, Nat.zero_add] at h1 h2
    omega
theorem rd_take {α : Type} {w : World} {B n sz : Nat} {A : Option Addr} {enc : α → List Value} {xs : List α} (h : Rd w B A n sz enc xs) {k : Nat} (hk : k ≤ n) : Rd w B A k sz enc (xs.take k) := by
  refine ⟨by rw [List.length_take, h.1]; omega, fun hp => ?_⟩
  obtain ⟨b, o, hA, hb, hc⟩ := h.2 (by omega)
  refine ⟨b, o, hA, hb, fun i x hx j v hv => hc i x ?_ j v hv⟩
  rw [List.getElem?_take] at hx
  split at hx
  · exact hx
  · cases hx
section
variable {w W W' : World} {G S : Nat} {ga gv : Value} {A : Option Addr} {n c : Nat} {out : List Fac} {st : List Int}
end
theorem getD_of {α : Type} {xs : List α} {k : Nat} {x d : α} (h : xs[k]? = some x) : xs.getD k d = x := by rw [List.getD_eq_getElem?_getD, h]; rfl
theorem mlGo_take (rs : List Fac) : ∀ (ws : List ByteArray) (w : ByteArray) (k : Nat) (s : List Fac × List Int), mlGo rs k (ws ++ [w]) s = mlStep rs (k + ws.length) w (mlGo rs k ws s)
  | [], _, _, _ => rfl
  | x :: ws, w, k, s => by
    show mlGo rs (k + 1) (ws ++ [w]) (mlStep rs k x s) = _
    rw [mlGo_take rs ws w (k + 1)]
    simp only [List.length_cons]
    rw [show k + 1 + ws.length = k + (ws.length + 1) by omega]; rfl
end Go.Proofs.Ytajfjgemfnfakaa


/-
  The letters of a grammar replaced, in the reference.
-/
namespace Go.Proofs.Ytajfjgemfnfakaa
open Go.RowKit

section
variable {α : Type} {P : Program} {w : World} {ops : Array Oper} {o : Oper} {a : Act} {K : Act → World → Prop} {Q : Exit → Act → World → Prop} {E : Prop}
/-- one element more, as a step of a region that draws its order; where the row lies then -/
theorem step_pushH (hgd : o.guard = none) (s x : Operand) (t : TypeId) (ho : o.op = .call { callee := .builtin .append, args := #[s, x], argTypes := #[t, t] })
    (base : Nat) (e : TypeId) (sz bytes : Nat) (EI : Elem P t e sz bytes) (enc : α → List Value) (A : Option Addr) (n c : Nat) (xs : List α) (hs : a.eval s = .slice A n c)
    (hown : w.ownsRow base e sz (.slice A n c) n (xs.flatMap enc)) (g : Nat) (y : α) (cs : Array Value) (t' : TypeId) (fr : Nat × Nat) (hx : a.eval x = .slice (some ⟨g, 0, none⟩) 1 1) (hg : w.heap[g]? = some (.cells cs t' fr)) (hcs : cs.toList = enc y)
    (hlen : (enc y).length = sz) (hone : ∀ u ∈ enc y, u.oneCell' = true) (hsz : 0 < sz) (hbytes : (n + 1) * bytes ≤ 140737488355328) (hm : n + 1 ≤ maxLen) (hsize : base ≤ w.heap.size)
    (h : ∀ A' c' w', w'.ownsRow base e sz (.slice A' (n + 1) c') (n + 1) ((xs ++ [y]).flatMap enc) → w.grownBy w' (Value.slice A n c).ownBlock →
      ((Value.slice A' (n + 1) c').ownBlock = (Value.slice A n c).ownBlock ∨ (Value.slice A' (n + 1) c').ownBlock = some w.heap.size) →
      K (a.put o.dst (.slice A' (n + 1) c')) w') : if Region.wanted o (yielded ops a.tmps) = true then Oper.wp P o a w K Q else E := by
  obtain ⟨ht, i, z, hi, hz, h1, h2, hzs⟩ := EI
  have hnews : ∀ j u, (enc y)[j]? = some u → w.cell? ((⟨g, 0, none⟩ : Addr).add j) = some u := by rw [← hcs]; exact World.news_of_block hg
  obtain ⟨v', w', hr, r2, r3, _, r5⟩ := run_append_own_at (P := P) w base t o.type e i z sz bytes ht hi hz h1 h2 hzs hsz _ n _ hown ⟨g, 0, none⟩ 1 1 (enc y) (by rw [hlen]; omega) hnews hone hm hbytes hsize
  obtain ⟨g', cap, rfl, _, _⟩ := r2.form (by omega)
  have hw : Region.wanted o (yielded ops a.tmps) = true := by simp [Region.wanted, hgd]
  rw [if_pos hw]
  unfold Oper.wp execOp
  simp only [ho, resolve, invoke, builtin, Sem.run_bind, Sem.run_pure, Result.andThen_ok, List.map_toArray, List.map_cons, List.map_nil, hs, hx, hr]
  exact h _ _ w' (by rw [List.flatMap_append]; simpa using r2) r3 r5
end
/-- 'MapLetters' of the reference under way -/
structure MsW (w W : World) (G S : Nat) (ga gv : Value) (A : Option Addr) (n c : Nat) (out : List Fac) (st : List Int) : Prop where
  q : W.ownsRow w.heap.size 59 3 (.slice A n c) n (out.flatMap Fac.cells)
  i : Blk W w.heap.size 26 #[ga]
  o : Blk W (w.heap.size + 1) 26 #[.slice none 0 0]
  g : Blk W G 26 #[gv]
  s : Blk W S 2 (intA st)
  e : Below w.heap.size w W
  n0 : w.heap.size + 1 < G
  n1 : w.heap.size ≤ S
section
variable {w W W' : World} {G S : Nat} {ga gv : Value} {A : Option Addr} {n c : Nat} {out : List Fac} {st : List Int}
theorem MsW.next (h : MsW w W G S ga gv A n c out st) (hb : Below W.heap.size W W') : MsW w W' G S ga gv A n c out st :=
  ⟨own_next h.q hb, h.i.next hb, h.o.next hb, h.g.next hb, h.s.next hb, h.e.trans (hb.mono h.e.size), h.n0, h.n1⟩
theorem MsW.alloc (h : MsW w W G S ga gv A n c out st) (o : Obj) : MsW w (W.alloc o) G S ga gv A n c out st := h.next ((Below.refl _ _).alloc (Nat.le_refl _) _)
theorem MsW.drew (h : MsW w W G S ga gv A n c out st) : MsW w W.drew G S ga gv A n c out st := h.next (Below.refl _ _).drew
theorem MsW.app {A8 : Option Addr} {k8 c8 : Nat} {out' : List Fac} (h : MsW w W G S ga gv A n c out st) (hq : W'.ownsRow w.heap.size 59 3 (.slice A8 k8 c8) k8 (out'.flatMap Fac.cells)) (hg : W.grownBy W' (Value.slice A n c).ownBlock) :
    MsW w W' G S ga gv A8 k8 c8 out' st :=
  ⟨hq, h.i.grown hg (own_blk_ne h.q h.i (by decide)), h.o.grown hg (own_blk_ne h.q h.o (by decide)), h.g.grown hg (own_blk_ne h.q h.g (by decide)), h.s.grown hg (own_blk_ne h.q h.s (by decide)), h.e.grown hg h.e.size (own_ge h.q), h.n0, h.n1⟩
theorem MsW.put (h : MsW w W G S ga gv A n c out st) (u : Value) : MsW w (W.setCell ⟨G, 0, none⟩ u) G S ga u A n c out st := by
  have hg2 := gb_set W G 0 u
  have h0 := h.n0
  have hs : some S ≠ some G := fun e => by
    injection e with e
    have h1 := h.s; have h2 := h.g
    rw [e] at h1
    unfold Blk at h1 h2
    rw [h1] at h2
    injection h2 with h2; injection h2 with _ h2; exact absurd h2 (by decide)
  exact ⟨own_kept' h.q h.g (by decide) _, h.i.grown hg2 (by intro e; injection e with e; omega), h.o.grown hg2 (by intro e; injection e with e; omega), h.g.set_ 0 _, h.s.grown hg2 hs, h.e.setCell (by show w.heap.size ≤ G; omega) _, h.n0, h.n1⟩
/-- behind what writes a row of numbers made later -/
theorem MsW.far {v : Value} {k b : Nat} {xs : List Value} (h : MsW w W G S ga gv A n c out st) (ho : W.ownsRow b 2 1 v k xs) (hb : S < b) (hg : W.grownBy W' v.ownBlock) : MsW w W' G S ga gv A n c out st :=
  ⟨h.q.kept hg (own_ne h.q ho (by decide)), h.i.grown hg (own_blk_ne ho h.i (by decide)), h.o.grown hg (own_blk_ne ho h.o (by decide)), h.g.grown hg (own_blk_ne ho h.g (by decide)), h.s.grown hg (fun e => by have := own_ge ho S e.symm; omega), h.e.grown hg h.e.size (fun q hq => by have := own_ge ho q hq; have := h.n1; omega), h.n0, h.n1⟩
theorem MsW.tell (h : MsW w W G S ga gv A n c out st) (i : Nat) (z : Int) : MsW w (W.setCell ⟨S, i, none⟩ (.int .i64 z)) G S ga gv A n c out (st.set i z) := by
  have hg2 := gb_set W S i (.int .i64 z)
  have nt : ∀ {g : Nat} {cs : Array Value}, Blk W g 26 cs → some g ≠ some S := fun hB e => by
    injection e with e; subst e
    have := hB.symm.trans h.s
    injection this with this; injection this with _ this; exact absurd this (by decide)
  have := h.s.set_ i (.int .i64 z)
  rw [intA_set] at this
  exact ⟨own_kept' h.q h.s (by decide) _, h.i.grown hg2 (nt h.i), h.o.grown hg2 (nt h.o), h.g.grown hg2 (nt h.g), this, h.e.setCell h.n1 _, h.n0, h.n1⟩
end
theorem usedL_take {rs : List Fac} {k : Nat} {x : Fac} (h : rs[k]? = some x) (u : UInt8) : usedL (rs.take (k + 1)) u = (usedL (rs.take k) u || decide (x.l = ⟨#[u]⟩)) := by
  rw [take_succ_at h]; simp [usedL]
theorem raise_take {rs : List Fac} {k : Nat} {x : Fac} (h : rs[k]? = some x) (b : Int) : raiseL b (rs.take (k + 1)) = raiseL b (rs.take k) ++ [rsF b x] := by
  rw [take_succ_at h]; simp [raiseL]
end Go.Proofs.Ytajfjgemfnfakaa


/-
  The join of two grammars in the reference.
-/
namespace Go.Proofs.Ytajfjgemfnfakaa
open Go.RowKit

set_option maxHeartbeats 4000000 in
set_option maxRecDepth 100000 in
theorem l02Join_any (gb hb : Nat) (A : Option Addr) (n c : Nat) (gs : List Fac) (Ah : Option Addr) (m ch : Nat) (hs : List Fac) (w : World) (hgb : gb < w.heap.size) (hgc : w.cell? ⟨gb, 0, none⟩ = some (.slice A n c)) (hhb : hb < w.heap.size) (hhc : w.cell? ⟨hb, 0, none⟩ = some (.slice Ah m ch))
    (hn0 : 0 < n) (hn : n ≤ 400) (hm0 : 0 < m) (hm : m ≤ 400) (hr : Rd w w.heap.size A n 3 Fac.cells gs) (hr2 : Rd w w.heap.size Ah m 3 Fac.cells hs) (hwf : WF hs) :
    Calls Try.prog 65 #[.pointer (some ⟨gb, 0, none⟩), .pointer (some ⟨hb, 0, none⟩)] w (RetG w (joinL gs hs)) := by
  have HL := Lib.hid hr.len
  have HM := Lib.hid hr2.len
  have HR := Lib.hid hr; clear hr
  have H2 := Lib.hid hr2; clear hr2
  have HW := Lib.hid hwf; clear hwf
  have HJ := Lib.hid (show joinL gs hs = (gs ++ raiseL gs.length hs) ++ [⟨⟨#[]⟩, (gs.length : Int) - 1, (gs.length : Int) + hs.length - 1⟩] by unfold joinL; rw [if_neg (by rw [HL.out]; omega), if_neg (by rw [HM.out]; omega)])
  have HC := Lib.hid (fun (W : World) (h : Below w.heap.size w W) => show W.cell? ⟨gb, 0, none⟩ = some (.slice A n c) ∧ W.cell? ⟨hb, 0, none⟩ = some (.slice Ah m ch) ∧ gb < W.heap.size ∧ hb < W.heap.size from ⟨(h.cell (p := ⟨gb, 0, none⟩) hgb).trans hgc, (h.cell (p := ⟨hb, 0, none⟩) hhb).trans hhc, by have := h.size; omega, by have := h.size; omega⟩)
  have n1 : ((n : Int) == 0) = false := by simp; omega
  have m1 : ((m : Int) == 0) = false := by simp; omega
  rw [HL.out, HM.out] at HJ
  go_enter Try.func65, Try.ntmps65
  have b1 : Below w.heap.size w (w.alloc (.cells #[.slice none 0 0] 26)) := by (repeat first | exact Below.refl _ _ | assumption | refine Below.drew ?_ | refine Below.alloc ?_ (by first | exact Nat.le_refl _ | (simp; done) | omega | (simp; omega)) _ | refine Below.setCell ?_ (by first | exact Nat.le_refl _ | (simp; done) | omega | (simp; omega)) _)
  have B1 := Lib.hid (Blk.new w 26 #[.slice none 0 0])
  obtain ⟨q0, q1, q2, q3⟩ := HC.out _ b1
  clear hgc hhc
  go_wp2_with fail
  refine (l02Own_any gb A n c gs _ q2 q0 (by omega) hn0 (HR.out.next b1)).mono ?_
  rintro e w4 ⟨A4, c4, rfl, own4, hb4⟩
  rw [HL.out] at own4 ⊢
  have b4 := Lib.hid (b1.trans (hb4.mono b1.size))
  have O4 := Lib.hid (own4.mono b1.size)
  have B4 := Lib.hid (B1.out.next hb4)
  clear own4 hb4 q0 q1 q2 q3 b1
  have P5 := Lib.hid (show PwW w (w4.alloc (.cells #[.slice A4 n c4] 26)) w.heap.size w4.heap.size A4 n c4 gs from
    ⟨O4.out.alloc _, B4.out.alloc _, Blk.new _ _ _, b4.out.alloc b4.out.size _, Nat.le_refl _, B4.out.lt⟩)
  obtain ⟨q0, q1, q2, q3⟩ := HC.out _ P5.out.e
  have b4 := b4.out
  obtain ⟨p0, p1, p2, p3⟩ := HC.out _ b4
  go_wp2_with fail
  clear q0 q1 q2 q3 p0 p1 p2 p3 B1 B4 O4 b4
  generalize w4.heap.size = G at *
  go_loopw [7] (fun j_ w' => ∃ (j : Nat) (A1 : Option Addr) (n1 c1 : Nat) (cur : List Fac), j_ = .int .i64 j ∧ j ≤ m ∧ Hid (n1 = n + j) ∧ Hid (gs ++ raiseL n (hs.take j) = cur) ∧ Hid (cur.length = n1) ∧ Hid (PwW w w' w.heap.size G A1 n1 c1 cur)) (fun j_ _ => m - (intOf j_).toNat)
  case atStart => exact ⟨0, A4, n, c4, gs, rfl, by omega, Lib.hid rfl, Lib.hid (by simp [raiseL]), HL, P5⟩
  case round =>
    obtain ⟨j, A1, n1, c1, cur, rfl, hj, hn1, hcur, hcl, P⟩ := hrel
    clear P5
    have n1b : n1 ≤ 800 := by have := hn1.out; omega
    obtain ⟨q0, q1, q2, q3⟩ := HC.out _ P.out.e
    by_cases hlt : j < m
    · obtain ⟨bh, oh, y, hAh, hBr, hy, c0, c1', c2'⟩ := H2.out.fac hlt
      subst hAh
      have hyw := HW.out j y hy
      have Hrt := Lib.hid (raise_take hy (n : Int))
      have LC := Lib.hid (fun W => l02Raised_any y (n : Int) W (fun h0 => by
        rcases hyw with ⟨_, a0, a1, b0, b1⟩ | ⟨cc, _, hxl, _⟩
        · exact ⟨a0, by omega, b0, by omega⟩
        · rw [hxl] at h0; exact absurd h0 (show ¬ (1 : Nat) = 0 by omega)) (by omega) (by omega))
      have j0 : (0 : Int) ≤ (j : Int) := by omega
      have j1 : (j : Int) < (m : Int) := by omega
      obtain ⟨z, hz⟩ : ∃ z, rsF (n : Int) y = z := ⟨_, rfl⟩
      rw [hz] at LC Hrt
      have HS2 := Lib.hid (fun (W : World) (M : Blk W G 26 #[.slice A1 n1 c1]) (he : Below w.heap.size w W) =>
        show W.cell? ⟨G, 0, none⟩ = some (.slice A1 n1 c1) ∧ W.cell? ⟨hb, 0, none⟩ = some (.slice (some ⟨bh, oh, none⟩) m ch) ∧ W.cell? ⟨bh, oh + j * 3, none⟩ = some (.string y.l) ∧ W.cell? ⟨bh, oh + j * 3 + 1, none⟩ = some (.int .i64 y.a) ∧ W.cell? ⟨bh, oh + j * 3 + 2, none⟩ = some (.int .i64 y.b) from
        ⟨M.cell 0, (HC.out W he).2.1, (he.cell (p := ⟨bh, oh + j * 3, none⟩) hBr).trans c0, (he.cell (p := ⟨bh, oh + j * 3 + 1, none⟩) hBr).trans c1', (he.cell (p := ⟨bh, oh + j * 3 + 2, none⟩) hBr).trans c2'⟩)
      have hS0 := HS2.out wr.drew P.out.drew.x P.out.drew.e
      clear hy hyw hz c0 c1' c2'
      go_wp2_with fail
      clear q0 q1 q2 q3
      refine wp_region_N (fun W => W.cell? ⟨G, 0, none⟩ = some (.slice A1 n1 c1) ∧ W.cell? ⟨hb, 0, none⟩ = some (.slice (some ⟨bh, oh, none⟩) m ch) ∧ W.cell? ⟨bh, oh + j * 3, none⟩ = some (.string y.l) ∧ W.cell? ⟨bh, oh + j * 3 + 1, none⟩ = some (.int .i64 y.a) ∧ W.cell? ⟨bh, oh + j * 3 + 2, none⟩ = some (.int .i64 y.b)) [14] (by kernel_rfl) ?_
      refine wpAnyN_take (i := 0) (v := ?_) rfl (by kernel_rfl) (fun _ _ _ h => h) (by rfl) (fun W hW => ?_) hS0 ?_
      rotate_left
      · obtain ⟨z0, z1, z2, z3, z4⟩ := hW
        go_simp
        try with_reducible rfl
      try simp only [List.getElem_toArray, List.getElem_cons_zero, List.getElem_cons_succ, Act.put, List.setIfInBounds_toArray, List.set_cons_zero, List.set_cons_succ]
      refine wpAnyN_take (i := 1) (v := ?_) rfl (by kernel_rfl) (fun _ _ _ h => h) (by rfl) (fun W hW => ?_) hS0 ?_
      rotate_left
      · obtain ⟨z0, z1, z2, z3, z4⟩ := hW
        go_simp
        try with_reducible rfl
      try simp only [List.getElem_toArray, List.getElem_cons_zero, List.getElem_cons_succ, Act.put, List.setIfInBounds_toArray, List.set_cons_zero, List.set_cons_succ]
      refine wpAnyN_take (i := 2) (v := ?_) rfl (by kernel_rfl) (fun _ _ _ h => h) (by rfl) (fun W hW => ?_) hS0 ?_
      rotate_left
      · obtain ⟨z0, z1, z2, z3, z4⟩ := hW
        go_simp
        try with_reducible rfl
      try simp only [List.getElem_toArray, List.getElem_cons_zero, List.getElem_cons_succ, Act.put, List.setIfInBounds_toArray, List.set_cons_zero, List.set_cons_succ]
      refine wpAnyN_take (i := 3) (v := ?_) rfl (by kernel_rfl) (fun _ _ _ h => h) (by rfl) (fun W hW => ?_) hS0 ?_
      rotate_left
      · obtain ⟨z0, z1, z2, z3, z4⟩ := hW
        go_simp
        try with_reducible rfl
      try simp only [List.getElem_toArray, List.getElem_cons_zero, List.getElem_cons_succ, Act.put, List.setIfInBounds_toArray, List.set_cons_zero, List.set_cons_succ]
      refine wpAnyN_take (i := 4) (v := ?_) rfl (by kernel_rfl) (fun _ _ _ h => h) (by rfl) (fun W hW => ?_) hS0 ?_
      rotate_left
      · obtain ⟨z0, z1, z2, z3, z4⟩ := hW
        go_simp
        try with_reducible rfl
      try simp only [List.getElem_toArray, List.getElem_cons_zero, List.getElem_cons_succ, Act.put, List.setIfInBounds_toArray, List.set_cons_zero, List.set_cons_succ]
      refine wpAnyN_take (i := 5) (v := ?_) rfl (by kernel_rfl) (fun _ _ _ h => h) (by rfl) (fun W hW => ?_) hS0 ?_
      rotate_left
      · obtain ⟨z0, z1, z2, z3, z4⟩ := hW
        go_simp
        try with_reducible rfl
      try simp only [List.getElem_toArray, List.getElem_cons_zero, List.getElem_cons_succ, Act.put, List.setIfInBounds_toArray, List.set_cons_zero, List.set_cons_succ]
      refine wpAnyN_take (i := 6) (v := ?_) rfl (by kernel_rfl) (fun _ _ _ h => h) (by rfl) (fun W hW => ?_) hS0 ?_
      rotate_left
      · obtain ⟨z0, z1, z2, z3, z4⟩ := hW
        go_simp
        try with_reducible rfl
      try simp only [List.getElem_toArray, List.getElem_cons_zero, List.getElem_cons_succ, Act.put, List.setIfInBounds_toArray, List.set_cons_zero, List.set_cons_succ]
      refine wpAnyN_take (i := 7) (v := ?_) rfl (by kernel_rfl) (fun _ _ _ h => h) (by rfl) (fun W hW => ?_) hS0 ?_
      rotate_left
      · obtain ⟨z0, z1, z2, z3, z4⟩ := hW
        go_simp
        try with_reducible rfl
      try simp only [List.getElem_toArray, List.getElem_cons_zero, List.getElem_cons_succ, Act.put, List.setIfInBounds_toArray, List.set_cons_zero, List.set_cons_succ]
      refine wpAnyN_take (i := 8) (v := ?_) rfl (by kernel_rfl) (fun _ _ _ h => h) (by rfl) (fun W hW => ?_) hS0 ?_
      rotate_left
      · obtain ⟨z0, z1, z2, z3, z4⟩ := hW
        go_simp
        try with_reducible rfl
      try simp only [List.getElem_toArray, List.getElem_cons_zero, List.getElem_cons_succ, Act.put, List.setIfInBounds_toArray, List.set_cons_zero, List.set_cons_succ]
      refine wpAnyN_take (i := 9) (v := ?_) rfl (by kernel_rfl) (fun _ _ _ h => h) (by rfl) (fun W hW => ?_) hS0 ?_
      rotate_left
      · obtain ⟨z0, z1, z2, z3, z4⟩ := hW
        go_simp
        try with_reducible rfl
      try simp only [List.getElem_toArray, List.getElem_cons_zero, List.getElem_cons_succ, Act.put, List.setIfInBounds_toArray, List.set_cons_zero, List.set_cons_succ]
      refine wpAnyN_next (i := 10) rfl (by kernel_rfl) (fun K hK => ?_)
      go_simp
      go_wp2_with (go_at_call 72; refine (LC.out _).mono ?_; rintro e w10 ⟨rfl, hb10⟩)
      have bm : Below wr.heap.size wr w10 := (Below.refl _ _).drew.trans hb10
      have M10 := Lib.hid (P.out.next bm)
      have M11 := Lib.hid (M10.out.alloc (.cells #[.string z.l, .int .i64 z.a, .int .i64 z.b] 59))
      refine hK.out _ _ (fun _ => HS2.out _ M10.out.x M10.out.e) ?_
      clear hK K
      try simp only [List.getElem_toArray, List.getElem_cons_zero, List.getElem_cons_succ, Act.put, List.setIfInBounds_toArray, List.set_cons_zero, List.set_cons_succ]
      refine wpAnyN_next (i := 11) rfl (by kernel_rfl) (fun K hK => ?_)
      go_simp
      refine hK.out _ _ (fun _ => HS2.out _ M11.out.x M11.out.e) ?_
      clear hK K hS0
      try simp only [List.getElem_toArray, List.getElem_cons_zero, List.getElem_cons_succ, Act.put, List.setIfInBounds_toArray, List.set_cons_zero, List.set_cons_succ]
      refine wpAnyN_next (i := 12) rfl (by kernel_rfl) (fun K hK => ?_)
      refine step_pushH (by rfl) _ _ _ (by rfl) w.heap.size 59 3 32 elem_rule Fac.cells A1 n1 c1 cur (by rfl) M11.out.q _ z #[.string z.l, .int .i64 z.a, .int .i64 z.b] 59 (0, 0) (by rfl) (heap_alloc_new _ _) rfl rfl (one_fac _) (by omega) (by omega) (by unfold maxLen; omega) M11.out.e.size ?_
      intro A8 c8 w8 own8 hg8 hat8
      have M12 := Lib.hid (M11.out.app own8 hg8)
      have M13 := Lib.hid (M11.out.push own8 hg8)
      have d8 := M12.out.2.2.1.cell 0
      have f8 := M12.out.2.2.1.frozen
      have l8 := M12.out.2.2.1.lt
      have hS1 := HS2.out _ M12.out.2.2.1 M12.out.2.2.2
      refine hK.out _ _ (fun _ => hS1) ?_
      clear hK K own8 hg8 hat8
      try simp only [List.getElem_toArray, List.getElem_cons_zero, List.getElem_cons_succ, Act.put, List.setIfInBounds_toArray, List.set_cons_zero, List.set_cons_succ]
      refine wpAnyN_next (i := 13) rfl (by kernel_rfl) (fun K hK => ?_)
      go_simp
      refine hK.out _ _ (fun _ => hS1) ?_
      clear hK K hS1
      try simp only [List.getElem_toArray, List.getElem_cons_zero, List.getElem_cons_succ, Act.put, List.setIfInBounds_toArray, List.set_cons_zero, List.set_cons_succ]
      refine wpAnyN_next (i := 14) rfl (by kernel_rfl) (fun K hK => ?_)
      go_simp
      refine hK.out _ _ (fun h => absurd h (by decide)) ?_
      clear hK K
      refine wpAnyN_done (by kernel_rfl) ?_ _
      clear d8 f8 l8
      go_wp2_with fail
      go_roundw
      case rel => exact ⟨j + 1, A8, n1 + 1, c8, cur ++ [z], by go_num, by omega, Lib.hid (by have := hn1.out; omega), Lib.hid (by rw [Hrt.out, ← List.append_assoc, hcur.out]), Lib.hid (by rw [List.length_append, hcl.out]; rfl), M13⟩
      case measure => simp [intOf]; omega
    · have hjm : j = m := by omega
      have hcur' := hcur.out
      rw [hjm, show hs.take m = hs from List.take_of_length_le (by rw [HM.out]; omega)] at hcur'
      clear hcur hjm
      have hcur := Lib.hid hcur'
      clear hcur'
      have HS2 := Lib.hid (fun (W : World) (M : Blk W G 26 #[.slice A1 n1 c1]) (he : Below w.heap.size w W) =>
        show W.cell? ⟨G, 0, none⟩ = some (.slice A1 n1 c1) ∧ W.cell? ⟨hb, 0, none⟩ = some (.slice Ah m ch) from ⟨M.cell 0, (HC.out W he).2.1⟩)
      have hS0 := HS2.out wr.drew P.out.drew.x P.out.drew.e
      have u1 : IntKind.i64.wrap ((n : Int) - 1) = (n : Int) - 1 := by rw [IntWalk.i64_in _ (by omega)]
      have u2 : IntKind.i64.wrap ((n : Int) + m) = (n : Int) + m := by rw [IntWalk.i64_in _ (by omega)]
      have u3 : IntKind.i64.wrap ((n : Int) + m - 1) = (n : Int) + m - 1 := by rw [IntWalk.i64_in _ (by omega)]
      go_wp2_with fail
      clear q0 q1 q2 q3
      refine wp_region_N (fun W => W.cell? ⟨G, 0, none⟩ = some (.slice A1 n1 c1) ∧ W.cell? ⟨hb, 0, none⟩ = some (.slice Ah m ch)) [16] (by kernel_rfl) ?_
      refine wpAnyN_take (i := 0) (v := ?_) rfl (by kernel_rfl) (fun _ _ _ h => h) (by rfl) (fun W hW => ?_) hS0 ?_
      rotate_left
      · obtain ⟨z0, z1⟩ := hW
        go_simp
        try with_reducible rfl
      try simp only [List.getElem_toArray, List.getElem_cons_zero, List.getElem_cons_succ, Act.put, List.setIfInBounds_toArray, List.set_cons_zero, List.set_cons_succ]
      refine wpAnyN_take (i := 1) (v := ?_) rfl (by kernel_rfl) (fun _ _ _ h => h) (by rfl) (fun W hW => ?_) hS0 ?_
      rotate_left
      · obtain ⟨z0, z1⟩ := hW
        go_simp
        try with_reducible rfl
      try simp only [List.getElem_toArray, List.getElem_cons_zero, List.getElem_cons_succ, Act.put, List.setIfInBounds_toArray, List.set_cons_zero, List.set_cons_succ]
      refine wpAnyN_take (i := 2) (v := ?_) rfl (by kernel_rfl) (fun _ _ _ h => h) (by rfl) (fun W hW => ?_) hS0 ?_
      rotate_left
      · obtain ⟨z0, z1⟩ := hW
        go_simp
        try with_reducible rfl
      try simp only [List.getElem_toArray, List.getElem_cons_zero, List.getElem_cons_succ, Act.put, List.setIfInBounds_toArray, List.set_cons_zero, List.set_cons_succ]
      refine wpAnyN_take (i := 3) (v := ?_) rfl (by kernel_rfl) (fun _ _ _ h => h) (by rfl) (fun W hW => ?_) hS0 ?_
      rotate_left
      · obtain ⟨z0, z1⟩ := hW
        go_simp
        try with_reducible rfl
      try simp only [List.getElem_toArray, List.getElem_cons_zero, List.getElem_cons_succ, Act.put, List.setIfInBounds_toArray, List.set_cons_zero, List.set_cons_succ]
      refine wpAnyN_take (i := 4) (v := ?_) rfl (by kernel_rfl) (fun _ _ _ h => h) (by rfl) (fun W hW => ?_) hS0 ?_
      rotate_left
      · obtain ⟨z0, z1⟩ := hW
        go_simp
        try with_reducible rfl
      try simp only [List.getElem_toArray, List.getElem_cons_zero, List.getElem_cons_succ, Act.put, List.setIfInBounds_toArray, List.set_cons_zero, List.set_cons_succ]
      refine wpAnyN_take (i := 5) (v := ?_) rfl (by kernel_rfl) (fun _ _ _ h => h) (by rfl) (fun W hW => ?_) hS0 ?_
      rotate_left
      · obtain ⟨z0, z1⟩ := hW
        go_simp
        try with_reducible rfl
      try simp only [List.getElem_toArray, List.getElem_cons_zero, List.getElem_cons_succ, Act.put, List.setIfInBounds_toArray, List.set_cons_zero, List.set_cons_succ]
      refine wpAnyN_take (i := 6) (v := ?_) rfl (by kernel_rfl) (fun _ _ _ h => h) (by rfl) (fun W hW => ?_) hS0 ?_
      rotate_left
      · obtain ⟨z0, z1⟩ := hW
        go_simp
        try with_reducible rfl
      try simp only [List.getElem_toArray, List.getElem_cons_zero, List.getElem_cons_succ, Act.put, List.setIfInBounds_toArray, List.set_cons_zero, List.set_cons_succ]
      refine wpAnyN_take (i := 7) (v := ?_) rfl (by kernel_rfl) (fun _ _ _ h => h) (by rfl) (fun W hW => ?_) hS0 ?_
      rotate_left
      · obtain ⟨z0, z1⟩ := hW
        go_simp
        try with_reducible rfl
      try simp only [List.getElem_toArray, List.getElem_cons_zero, List.getElem_cons_succ, Act.put, List.setIfInBounds_toArray, List.set_cons_zero, List.set_cons_succ]
      refine wpAnyN_take (i := 8) (v := ?_) rfl (by kernel_rfl) (fun _ _ _ h => h) (by rfl) (fun W hW => ?_) hS0 ?_
      rotate_left
      · obtain ⟨z0, z1⟩ := hW
        go_simp
        try with_reducible rfl
      try simp only [List.getElem_toArray, List.getElem_cons_zero, List.getElem_cons_succ, Act.put, List.setIfInBounds_toArray, List.set_cons_zero, List.set_cons_succ]
      refine wpAnyN_take (i := 9) (v := ?_) rfl (by kernel_rfl) (fun _ _ _ h => h) (by rfl) (fun W hW => ?_) hS0 ?_
      rotate_left
      · obtain ⟨z0, z1⟩ := hW
        go_simp
        try with_reducible rfl
      try simp only [List.getElem_toArray, List.getElem_cons_zero, List.getElem_cons_succ, Act.put, List.setIfInBounds_toArray, List.set_cons_zero, List.set_cons_succ]
      refine wpAnyN_take (i := 10) (v := ?_) rfl (by kernel_rfl) (fun _ _ _ h => h) (by rfl) (fun W hW => ?_) hS0 ?_
      rotate_left
      · obtain ⟨z0, z1⟩ := hW
        go_simp
        try with_reducible rfl
      try simp only [List.getElem_toArray, List.getElem_cons_zero, List.getElem_cons_succ, Act.put, List.setIfInBounds_toArray, List.set_cons_zero, List.set_cons_succ]
      refine wpAnyN_take (i := 11) (v := ?_) rfl (by kernel_rfl) (fun _ _ _ h => h) (by rfl) (fun W hW => ?_) hS0 ?_
      rotate_left
      · obtain ⟨z0, z1⟩ := hW
        go_simp
        try with_reducible rfl
      try simp only [List.getElem_toArray, List.getElem_cons_zero, List.getElem_cons_succ, Act.put, List.setIfInBounds_toArray, List.set_cons_zero, List.set_cons_succ]
      refine wpAnyN_take (i := 12) (v := ?_) rfl (by kernel_rfl) (fun _ _ _ h => h) (by rfl) (fun W hW => ?_) hS0 ?_
      rotate_left
      · obtain ⟨z0, z1⟩ := hW
        go_simp
        try with_reducible rfl
      try simp only [List.getElem_toArray, List.getElem_cons_zero, List.getElem_cons_succ, Act.put, List.setIfInBounds_toArray, List.set_cons_zero, List.set_cons_succ]
      refine wpAnyN_next (i := 13) rfl (by kernel_rfl) (fun K hK => ?_)
      go_simp
      have M11 := Lib.hid (P.out.drew.alloc (.cells #[.string ⟨#[]⟩, .int .i64 ((n : Int) - 1), .int .i64 ((n : Int) + m - 1)] 59))
      refine hK.out _ _ (fun _ => HS2.out _ M11.out.x M11.out.e) ?_
      clear hK K hS0
      try simp only [List.getElem_toArray, List.getElem_cons_zero, List.getElem_cons_succ, Act.put, List.setIfInBounds_toArray, List.set_cons_zero, List.set_cons_succ]
      refine wpAnyN_next (i := 14) rfl (by kernel_rfl) (fun K hK => ?_)
      refine step_pushH (by rfl) _ _ _ (by rfl) w.heap.size 59 3 32 elem_rule Fac.cells A1 n1 c1 cur (by rfl) M11.out.q _ ⟨⟨#[]⟩, (n : Int) - 1, (n : Int) + m - 1⟩ #[.string ⟨#[]⟩, .int .i64 ((n : Int) - 1), .int .i64 ((n : Int) + m - 1)] 59 (0, 0) (by rfl) (heap_alloc_new _ _) rfl rfl (one_fac _) (by omega) (by omega) (by unfold maxLen; omega) M11.out.e.size ?_
      intro A8 c8 w8 own8 hg8 hat8
      have M12 := Lib.hid (M11.out.app own8 hg8)
      have M13 := Lib.hid (M11.out.push own8 hg8)
      have d8 := M12.out.2.2.1.cell 0
      have f8 := M12.out.2.2.1.frozen
      have l8 := M12.out.2.2.1.lt
      have hS1 := HS2.out _ M12.out.2.2.1 M12.out.2.2.2
      refine hK.out _ _ (fun _ => hS1) ?_
      clear hK K own8 hg8 hat8
      try simp only [List.getElem_toArray, List.getElem_cons_zero, List.getElem_cons_succ, Act.put, List.setIfInBounds_toArray, List.set_cons_zero, List.set_cons_succ]
      refine wpAnyN_next (i := 15) rfl (by kernel_rfl) (fun K hK => ?_)
      go_simp
      refine hK.out _ _ (fun _ => hS1) ?_
      clear hK K hS1
      try simp only [List.getElem_toArray, List.getElem_cons_zero, List.getElem_cons_succ, Act.put, List.setIfInBounds_toArray, List.set_cons_zero, List.set_cons_succ]
      refine wpAnyN_next (i := 16) rfl (by kernel_rfl) (fun K hK => ?_)
      go_simp
      refine hK.out _ _ (fun h => absurd h (by decide)) ?_
      clear hK K
      refine wpAnyN_done (by kernel_rfl) ?_ _
      clear d8 f8 l8
      generalize hw13 : w8.setCell ⟨G, 0, none⟩ (.slice A8 (n1 + 1) c8) = w13 at *
      have r7 := M13.out.r.cell 0
      have f7 := M13.out.r.frozen
      have l7 := M13.out.r.lt
      have g7 := M13.out.x.cell 0
      have B8 := M13.out.r.set_ 0 (.slice A8 (n1 + 1) c8)
      have x8 : (w13.setCell ⟨w.heap.size, 0, none⟩ (.slice A8 (n1 + 1) c8)).cell? ⟨w.heap.size, 0, none⟩ = some (.slice A8 (n1 + 1) c8) := by rw [B8.cell 0]; rfl
      have b8 := M13.out.e.setCell (p := ⟨w.heap.size, 0, none⟩) (Nat.le_refl _) (.slice A8 (n1 + 1) c8)
      have O8 := Lib.hid (own_kept' (i := 0) M13.out.q M13.out.r (by decide) (.slice A8 (n1 + 1) c8))
      clear B8 hw13
      go_wp2_with fail
      refine bodyPost_ret (v := .agg #[.slice A8 (n1 + 1) c8]) (by simp [results, Try.results65, go_sem, x8]) rfl (show RetG w (joinL gs hs) _ _ from ⟨A8, c8, ?_, ?_, b8⟩)
      · rw [HJ.out, hcur.out, List.length_append, hcl.out]; rfl
      · rw [HJ.out, hcur.out, List.length_append, hcl.out]; exact O8.out
theorem join_sz {gs hs : List Fac} (hg : WF gs) (hh : WF hs) : ∀ f ∈ joinL gs hs, f.l.size ≤ maxLen := wf_sz (join_wf hg hh)
theorem join_len {gs hs : List Fac} (h0 : gs.length ≤ 400) (h1 : hs.length ≤ 400) : (joinL gs hs).length ≤ 801 := by
  unfold joinL
  split
  · omega
  · split
    · omega
    · simp only [List.length_append, raiseL_len, List.length_singleton]; omega
theorem join_pos {gs hs : List Fac} (h0 : 0 < gs.length) : 0 < (joinL gs hs).length := by
  unfold joinL
  split
  · omega
  · split
    · omega
    · simp only [List.length_append, List.length_singleton]; omega
set_option maxHeartbeats 4000000 in
set_option maxRecDepth 100000 in
theorem joinG_any (A : Option Addr) (n c : Nat) (gs : List Fac) (Ah : Option Addr) (m ch : Nat) (hs : List Fac) (w : World)
    (hn0 : 0 < n) (hm0 : 0 < m) (hr : Rd w w.heap.size A n 3 Fac.cells gs) (hr2 : Rd w w.heap.size Ah m 3 Fac.cells hs) (hg : WF gs) (hh : WF hs) (h1 : (gOk gs).isSome = true) (h2 : (gOk hs).isSome = true) :
    Calls Try.prog 44 #[.agg #[.slice A n c], .agg #[.slice Ah m ch]] w (RetGC w (limF (joinL gs hs)) (limC (joinL gs hs))) := by
  have hl1 := hr.len
  have hl2 := hr2.len
  have hn : n ≤ 400 := by obtain ⟨ls, hls⟩ := Option.isSome_iff_exists.1 h1; have := (gOk_lens hls).2.1; omega
  have hm : m ≤ 400 := by obtain ⟨ls, hls⟩ := Option.isSome_iff_exists.1 h2; have := (gOk_lens hls).2.1; omega
  have HR := Lib.hid hr; have H2 := Lib.hid hr2
  have HWg := Lib.hid hg; have HWh := Lib.hid hh
  have HS := Lib.hid (join_sz hg hh)
  have Hjl := Lib.hid (join_len (gs := gs) (hs := hs) (by omega) (by omega))
  have HO1 := Lib.hid h1; have HO2 := Lib.hid h2
  have Z1 := Lib.hid (wf_sz hg); have Z2 := Lib.hid (wf_sz hh)
  clear hr hr2 hl1 hl2 hg hh h1 h2
  go_enter Try.func44, Try.ntmps44
  go_wp2_with fail
  refine namedC fun w1 H1 => ?_
  have hb1 : Below w.heap.size w w1 := by rw [H1.out]; (repeat first | exact Below.refl _ _ | assumption | refine Below.drew ?_ | refine Below.alloc ?_ (by first | exact Nat.le_refl _ | (simp; done) | omega | (simp; omega)) _ | refine Below.setCell ?_ (by first | exact Nat.le_refl _ | (simp; done) | omega | (simp; omega)) _)
  have BG := Lib.hid (show Blk w1 w.heap.size 26 #[.slice A n c] by rw [H1.out]; exact ((Blk.new _ _ _).alloc _).alloc _)
  have BH := Lib.hid (show Blk w1 (w.heap.size + 1) 26 #[.slice Ah m ch] by rw [H1.out]; simpa using (Blk.new (w.alloc (.cells #[.slice A n c] 26)) 26 #[.slice Ah m ch]).alloc (.cells #[.slice none 0 0] 26))
  have BR := Lib.hid (show Blk w1 (w.heap.size + 2) 26 #[.slice none 0 0] by rw [H1.out]; simpa using Blk.new ((w.alloc (.cells #[.slice A n c] 26)).alloc (.cells #[.slice Ah m ch] 26)) 26 #[.slice none 0 0])
  clear H1
  refine (l02Ok_any w.heap.size A n c gs w1 BG.out.lt (BG.out.cell 0) (by omega) (HR.out.next hb1) Z1.out true HO1.out).mono ?_
  rintro e w2 ⟨rfl, hb2⟩
  have b2 := Lib.hid (hb1.trans (hb2.mono hb1.size))
  have BG2 := Lib.hid (BG.out.next hb2)
  have BH2 := Lib.hid (BH.out.next hb2)
  have BR2 := Lib.hid (BR.out.next hb2)
  clear BG BH BR hb1 hb2
  go_wp2_with fail
  refine (l02Ok_any (w.heap.size + 1) Ah m ch hs w2 BH2.out.lt (BH2.out.cell 0) (by omega) (H2.out.next b2.out) Z2.out true HO2.out).mono ?_
  rintro e w3 ⟨rfl, hb3⟩
  have b3 := Lib.hid (b2.out.trans (hb3.mono b2.out.size))
  have BG3 := Lib.hid (BG2.out.next hb3)
  have BH3 := Lib.hid (BH2.out.next hb3)
  have BR3 := Lib.hid (BR2.out.next hb3)
  clear BG2 BH2 BR2 hb3 b2
  go_wp2_with fail
  refine (l02Join_any w.heap.size (w.heap.size + 1) A n c gs Ah m ch hs w3 BG3.out.lt (BG3.out.cell 0) BH3.out.lt (BH3.out.cell 0) hn0 hn hm0 hm (HR.out.next b3.out) (H2.out.next b3.out) HWh.out).mono ?_
  generalize joinL gs hs = J at *
  rintro e w4 ⟨A4, c4, rfl, own4, hb4⟩
  have b4 := Lib.hid (b3.out.trans (hb4.mono b3.out.size))
  have O4 := Lib.hid (own4.mono b3.out.size)
  have BR4 := Lib.hid (BR3.out.next hb4)
  clear own4 hb4 b3 BG3 BH3 BR3
  rcases hok : (gOk J).isSome with _ | _
  · have Hok := Lib.hid hok
    have HF := Lib.hid (show limF J = [] by unfold limF; rw [hok]; rfl)
    have HC := Lib.hid (show limC J = 3 by unfold limC; rw [hok]; rfl)
    clear hok
    go_wp2_with fail
    refine (l02Told_no A4 J.length c4 J w4 (by have := Hjl.out; omega) (Rd.of_own (fun x _ => fac_len x) rfl O4.out) HS.out Hok.out).mono ?_
    rintro e w7 ⟨rfl, hb7⟩
    have B7 := BR4.out.next hb7
    have b7 := b4.out.trans (hb7.mono b4.out.size)
    have r7 := B7.cell 0
    have f7 := B7.frozen
    have l7 := B7.lt
    have x8 : (w7.setCell ⟨w.heap.size + 2, 0, none⟩ (.slice none 0 0)).cell? ⟨w.heap.size + 2, 0, none⟩ = some (.slice none 0 0) := by rw [(B7.set_ 0 (.slice none 0 0)).cell 0]; rfl
    have b8 := b7.setCell (p := ⟨w.heap.size + 2, 0, none⟩) (by simp) (.slice none 0 0)
    clear B7
    go_wp2_with fail
    exact bodyPost_ret (v := .tuple #[.agg #[.slice none 0 0], .int .i64 3]) (by simp [results, Try.results44, go_sem, x8]) rfl ⟨none, 0, by rw [HF.out, HC.out]; rfl, by rw [HF.out]; exact World.ownsRow_nil _ _ _ _, b8⟩
  · have Hok := Lib.hid hok
    have HF := Lib.hid (show limF J = J by unfold limF; rw [hok]; rfl)
    have HC := Lib.hid (show limC J = 0 by unfold limC; rw [hok]; rfl)
    clear hok
    go_wp2_with fail
    refine (l02Told_yes A4 J.length c4 J w4 (by have := Hjl.out; omega) (Rd.of_own (fun x _ => fac_len x) rfl O4.out) HS.out Hok.out).mono ?_
    rintro e w7 ⟨rfl, hb7⟩
    have B7 := Lib.hid (BR4.out.next hb7)
    have b7 := b4.out.trans (hb7.mono b4.out.size)
    have O7 := Lib.hid (own_next O4.out hb7)
    have r7 := B7.out.cell 0
    have f7 := B7.out.frozen
    have l7 := B7.out.lt
    have x8 : (w7.setCell ⟨w.heap.size + 2, 0, none⟩ (.slice A4 J.length c4)).cell? ⟨w.heap.size + 2, 0, none⟩ = some (.slice A4 J.length c4) := by rw [(B7.out.set_ 0 (.slice A4 J.length c4)).cell 0]; rfl
    have b8 := b7.setCell (p := ⟨w.heap.size + 2, 0, none⟩) (by simp) (.slice A4 J.length c4)
    have O8 := Lib.hid (own_kept' (i := 0) O7.out B7.out (by decide) (.slice A4 J.length c4))
    go_wp2_with fail
    exact bodyPost_ret (v := .tuple #[.agg #[.slice A4 J.length c4], .int .i64 0]) (by simp [results, Try.results44, go_sem, x8]) rfl ⟨A4, c4, by rw [HF.out, HC.out], by rw [HF.out]; exact O8.out, b8⟩
end Go.Proofs.Ytajfjgemfnfakaa


/-
  The words that a law draws.
-/
namespace Go.Proofs.Ytajfjgemfnfakaa
open Go.RowKit

/-- a list of bytes, as the walk reads it -/
theorem Rd.bytes {w : World} {B n : Nat} {A : Option Addr} {zs : List Int} (h : Rd w B A n 1 (fun z => [.int .u8 z]) zs) (ok : ∀ z ∈ zs, 0 ≤ z ∧ z < 256) : Rd w B A n 1 byteE (zs.map fun z => UInt8.ofNat z.toNat) := by
  refine ⟨by rw [List.length_map]; exact h.len, fun hn => ?_⟩
  obtain ⟨b, o, hA, hb, hc⟩ := h.2 hn
  refine ⟨b, o, hA, hb, fun k x hx j v hv => ?_⟩
  rw [List.getElem?_map] at hx
  obtain ⟨z, hz, rfl⟩ := Option.map_eq_some_iff.1 hx
  obtain ⟨h0, h1⟩ := ok z (List.mem_of_getElem? hz)
  obtain ⟨m, rfl⟩ := Int.eq_ofNat_of_zero_le h0
  have e : (UInt8.ofNat m).toNat = m := by rw [UInt8.toNat_ofNat']; omega
  have := hc k _ hz j v (by
    rcases j with _ | j
    · simpa [byteE, e] using hv
    · simp [byteE] at hv)
  exact this

theorem f6big_any (A : Option Addr) (n c : Nat) (w : World) (hn : n ≤ maxLen) (b : Bool) (hb : decide (4096 < n) = b) :
    Calls Try.prog 4 #[.slice A n c] w (Ret (.bool b) w) := by
  unfold maxLen at hn
  have e := Lib.hid (show decide ((4096 : Int) < (n : Int)) = b by rw [← hb, decide_eq_decide]; omega)
  clear hb
  go_enter Try.func4, Try.ntmps4
  go_wp2
  go_ret
  exact ⟨ret_bool e.out, Below.refl _ _⟩
def SrcNew (w : World) (e : Ending) (w' : World) : Prop := ∃ g, e = .returned (.pointer (some ⟨g, 0, none⟩)) ∧ w.heap.size ≤ g ∧ Src w' g 0 ∧ Below w.heap.size w w'
theorem l00From_any (A : Option Addr) (n c : Nat) (bs : List UInt8) (w : World) (hn : n ≤ 4096) (hr : Rd w w.heap.size A n 1 byteE bs) :
    Calls Try.prog 16 #[.slice A n c] w (SrcNew w) := by
  go_enter Try.func16, Try.ntmps16
  go_wp2_with fail
  go_ret
  exact ⟨w.heap.size, rfl, Nat.le_refl _, ⟨A, n, c, 0, bs, 0, Nat.le_refl _, hn, ⟨by omega, by omega⟩, Blk.new _ _ _, hr.below (by (repeat first | exact Below.refl _ _ | assumption | refine Below.drew ?_ | refine Below.alloc ?_ (by first | exact Nat.le_refl _ | (simp; done) | omega | (simp; omega)) _ | refine Below.setCell ?_ (by first | exact Nat.le_refl _ | (simp; done) | omega | (simp; omega)) _))⟩, by (repeat first | exact Below.refl _ _ | assumption | refine Below.drew ?_ | refine Below.alloc ?_ (by first | exact Nat.le_refl _ | (simp; done) | omega | (simp; omega)) _ | refine Below.setCell ?_ (by first | exact Nat.le_refl _ | (simp; done) | omega | (simp; omega)) _)⟩
/-- what a drawn word leaves -/
def WordPost (w : World) (most : Int) (e : Ending) (w' : World) : Prop := ∃ s : ByteArray, e = .returned (.string s) ∧ (s.size : Int) ≤ most ∧ s.data.toList.all letB = true ∧ Below w.heap.size w w'
set_option maxHeartbeats 400000 in
theorem p6Word_any (A : Option Addr) (n c : Nat) (bs : List UInt8) (most : Int) (w : World) (hn : n ≤ 4096) (hr : Rd w w.heap.size A n 1 byteE bs) (hm0 : 0 ≤ most) (hm : most ≤ 100000) :
    Calls Try.prog 8 #[.slice A n c, .int .i64 most] w (WordPost w most) := by
  go_enter Try.func8, Try.ntmps8
  go_wp2_with fail
  refine (l00From_any A n c bs w hn hr).mono ?_
  rintro e w1 ⟨g, rfl, hg, s1, hb1⟩
  go_wp2_with fail
  refine (l01Drawn_any g 0 most w1 s1 (by omega) hm0 hm).mono ?_
  rintro e w2 ⟨s, rfl, hs, hl, s2, g2⟩
  go_wp2_with fail
  go_ret
  exact ⟨s, rfl, hs, hl, hb1.grown g2 hb1.size (fun k e => by injection e; omega)⟩
end Go.Proofs.Ytajfjgemfnfakaa


/-
  The grammars that a law draws.
-/
namespace Go.Proofs.Ytajfjgemfnfakaa
open Go.RowKit

/-- a grammar that is drawn, in memory of its own -/
def GrNew (w : World) (most : Int) (e : Ending) (w' : World) : Prop :=
  ∃ A c rs, e = .returned (.agg #[.slice A rs.length c]) ∧ DgOk rs most ∧ w'.ownsRow w.heap.size 59 3 (.slice A rs.length c) rs.length (rs.flatMap Fac.cells) ∧ Below w.heap.size w w'
theorem DgOk.gok {rs : List Fac} {most : Int} (h : DgOk rs most) : (gOk rs).isSome = true := small_ok h.wf (by have := h.few; omega)
end Go.Proofs.Ytajfjgemfnfakaa


/-
  The draw of a grammar of a long word: it is valid, and its word is not too long.
-/
namespace Go.Proofs.Ytajfjgemfnfakaa
open Go.RowKit

/-- a slice value holds a grammar that is right -/
def GrAt (w : World) (B : Nat) (V : Value) : Prop := ∃ A c rs, V = .slice A rs.length c ∧ GrIn w B A c rs
theorem GrIn.next {w w' : World} {B : Nat} {A : Option Addr} {c : Nat} {rs : List Fac} (h : GrIn w B A c rs) (hb : Below w.heap.size w w') : GrIn w' B A c rs := ⟨h.wf, h.pos, h.ok, own_next h.own hb⟩
theorem GrIn.mono {w : World} {B B' : Nat} {A : Option Addr} {c : Nat} {rs : List Fac} (h : GrIn w B A c rs) (hB : B' ≤ B) : GrIn w B' A c rs := ⟨h.wf, h.pos, h.ok, h.own.mono hB⟩
theorem GrAt.mono {w : World} {B B' : Nat} {V : Value} (h : GrAt w B V) (hB : B' ≤ B) : GrAt w B' V := by obtain ⟨A, c, rs, e, h⟩ := h; exact ⟨A, c, rs, e, h.mono hB⟩
theorem GrAt.next {w w' : World} {B : Nat} {V : Value} (h : GrAt w B V) (hb : Below w.heap.size w w') : GrAt w' B V := by obtain ⟨A, c, rs, e, h⟩ := h; exact ⟨A, c, rs, e, h.next hb⟩
theorem GrAt.alloc {w : World} {B : Nat} {V : Value} (h : GrAt w B V) (o : Obj) : GrAt (w.alloc o) B V := h.next ((Below.refl _ _).alloc (Nat.le_refl _) _)
theorem GrAt.keep {w : World} {B g : Nat} {V : Value} {cs : Array Value} (h : GrAt w B V) (hB : Blk w g 26 cs) (u : Value) : GrAt (w.setCell ⟨g, 0, none⟩ u) B V := by
  obtain ⟨A, c, rs, e, h⟩ := h
  exact ⟨A, c, rs, e, h.wf, h.pos, h.ok, own_kept' (i := 0) h.own hB (by decide) u⟩
theorem GrAt.draw {w w' : World} {B g : Nat} {V : Value} (h : GrAt w B V) (hg : w.grownBy w' (some g)) (hlt : g < B) : GrAt w' B V := by
  obtain ⟨A, c, rs, e, h⟩ := h
  exact ⟨A, c, rs, e, h.wf, h.pos, h.ok, own_kept h.own hg hlt⟩
theorem GrCode.cut {w w' : World} {e : Ending} (h : GrCode w e w') : ∃ (A2 : Option Addr) (n2 c2 : Nat) (k : Int), e = .returned (.tuple #[.agg #[.slice A2 n2 c2], .int .i64 k]) ∧ Below w.heap.size w w' ∧ (k = 0 → GrAt w' w.heap.size (.slice A2 n2 c2)) := by
  rcases h with ⟨A, c, rs, rfl, h, hb⟩ | ⟨rfl, hb⟩
  · exact ⟨_, _, _, 0, rfl, hb, fun _ => ⟨A, c, rs, rfl, h⟩⟩
  · exact ⟨_, _, _, 3, rfl, hb, fun h => absurd h (by decide)⟩
/-- the draw of a long word under way -/
structure HuW (w W : World) (g K X : Nat) (A : Option Addr) (n c : Nat) (rs : List Fac) : Prop where
  q : W.ownsRow w.heap.size 59 3 (.slice A n c) n (rs.flatMap Fac.cells)
  r : Blk W w.heap.size 26 #[.slice none 0 0]
  x : Blk W X 26 #[.slice A n c]
  s : Src W g K
  e : w.grownBy W (some g)
  hg : g < w.heap.size
  hx : w.heap.size < X
section
variable {w W W' : World} {g K X : Nat} {A : Option Addr} {n c : Nat} {rs : List Fac}
theorem HuW.next (h : HuW w W g K X A n c rs) (hb : Below W.heap.size W W') : HuW w W' g K X A n c rs := ⟨own_next h.q hb, h.r.next hb, h.x.next hb, h.s.next hb, gb_next h.e hb, h.hg, h.hx⟩
theorem HuW.alloc (h : HuW w W g K X A n c rs) (o : Obj) : HuW w (W.alloc o) g K X A n c rs := h.next ((Below.refl _ _).alloc (Nat.le_refl _) _)
theorem HuW.drew (h : HuW w W g K X A n c rs) : HuW w W.drew g K X A n c rs := h.next (Below.refl _ _).drew
theorem HuW.pick {K' : Nat} (h : HuW w W g K X A n c rs) (hs : Src W' g K') (hg : W.grownBy W' (some g)) : HuW w W' g K' X A n c rs :=
  ⟨own_kept h.q hg h.hg, h.r.grown hg (by intro e; injection e with e; have := h.hg; omega), h.x.grown hg (by intro e; injection e with e; have := h.hg; have := h.hx; omega), hs, gb_trans h.e hg, h.hg, h.hx⟩
theorem HuW.far {b : Nat} {cs : Array Value} (h : HuW w W g K X A n c rs) (V : Value) (hB : Blk W b 26 cs) (hb : X < b) : HuW w (W.setCell ⟨b, 0, none⟩ V) g K X A n c rs := by
  have hg := gb_set W b 0 V
  have h1 := h.hg; have h2 := h.hx
  exact ⟨own_kept' (i := 0) h.q hB (by decide) V, h.r.grown hg (by intro e; injection e with e; omega), h.x.grown hg (by intro e; injection e with e; omega), h.s.grown hg (fun k e => by injection e with e; omega), gb_weak h.e hg (by omega), h1, h2⟩
end
theorem mul_pick {a b : Int} (a0 : 0 ≤ a) (a1 : a < 1000000) (b0 : 0 ≤ b) (b1 : b < 100000) : 0 ≤ a * b ∧ a * b ≤ 100000000000 :=
  ⟨Int.mul_nonneg a0 b0, Int.le_trans (Int.mul_le_mul (show a ≤ 1000000 by omega) (show b ≤ 100000 by omega) b0 (by decide)) (by decide)⟩
/-- what the draw of a long word leaves -/
def HuDraw (w : World) (g K : Nat) (e : Ending) (w' : World) : Prop :=
  ∃ A c rs, e = .returned (.agg #[.slice A rs.length c]) ∧ GrIn w' w.heap.size A c rs ∧ Src w' g K ∧ w.grownBy w' (some g)
theorem join_cut {w w' : World} {J : List Fac} {e : Ending} (h : RetGC w (limF J) (limC J) e w') (hw : WF J) (hp : 0 < J.length) :
    ∃ (A2 : Option Addr) (n2 c2 : Nat) (k : Int), e = .returned (.tuple #[.agg #[.slice A2 n2 c2], .int .i64 k]) ∧ Below w.heap.size w w' ∧ (k = 0 → GrAt w' w.heap.size (.slice A2 n2 c2)) := by
  obtain ⟨A, c, rfl, own, hb⟩ := h
  refine ⟨A, _, c, _, rfl, hb, fun hk => ?_⟩
  unfold limC at hk
  split at hk
  · rename_i h1
    have e : limF J = J := by unfold limF; rw [if_pos h1]
    rw [e] at own ⊢
    exact ⟨A, c, J, rfl, hw, hp, h1, own⟩
  · cases hk
theorem HuW.tell {w W : World} {g K K' X : Nat} {A A2 : Option Addr} {n c n2 c2 : Nat} {rs : List Fac} (h : HuW w W g K X A n c rs) (hG : GrAt W w.heap.size (.slice A2 n2 c2)) (hK : K ≤ K') :
    HuDraw w g K' (.returned (.agg #[.slice A2 n2 c2])) (W.setCell ⟨w.heap.size, 0, none⟩ (.slice A2 n2 c2)) := by
  have hg := gb_set W w.heap.size 0 (.slice A2 n2 c2)
  have h1 := h.hg
  obtain ⟨A', c', rs', hv, hi⟩ := hG
  injection hv with h1 h2 h3
  subst h1; subst h2; subst h3
  exact ⟨A2, c2, rs', rfl, ⟨hi.wf, hi.pos, hi.ok, own_kept' (i := 0) hi.own h.r (by decide) _⟩, (h.s.grown hg (fun k e => by injection e with e; omega)).mono hK, gb_weak h.e hg (Nat.le_refl _)⟩
theorem HuW.x8 {w W : World} {g K X : Nat} {A : Option Addr} {n c : Nat} {rs : List Fac} (h : HuW w W g K X A n c rs) (v : Value) : (W.setCell ⟨w.heap.size, 0, none⟩ v).cell? ⟨w.heap.size, 0, none⟩ = some v := by rw [(h.r.set_ 0 v).cell 0]; rfl
set_option maxHeartbeats 4000000 in
set_option maxRecDepth 100000 in
theorem l02Huge_any (g K : Nat) (w : World) (h : Src w g K) (hK : K ≤ 1000000) :
    Calls Try.prog 17 #[.pointer (some ⟨g, 0, none⟩)] w (HuDraw w g (K + 3000)) := by
  have HG := h.lt
  have H := Lib.hid h; clear h
  go_enter Try.func17, Try.ntmps17
  go_wp2_with fail
  refine namedC fun w1 H1 => ?_
  have hb1 : Below w.heap.size w w1 := by rw [H1.out]; (repeat first | exact Below.refl _ _ | assumption | refine Below.drew ?_ | refine Below.alloc ?_ (by first | exact Nat.le_refl _ | (simp; done) | omega | (simp; omega)) _ | refine Below.setCell ?_ (by first | exact Nat.le_refl _ | (simp; done) | omega | (simp; omega)) _)
  have BR := Lib.hid (show Blk w1 w.heap.size 26 #[.slice none 0 0] by rw [H1.out]; exact Blk.new _ _ _)
  clear H1
  refine (l02Drawn_any g K 1000 w1 (H.out.next hb1) (by omega) (by omega) (by omega)).mono ?_
  rintro e w2 ⟨A, c, rs, rfl, ok, own2, s2, g2⟩
  have HOk := Lib.hid ok
  obtain ⟨n, hn⟩ : ∃ n, rs.length = n := ⟨_, rfl⟩
  have hn0 : 0 < n := by have := ok.pos; omega
  have hn1 : n ≤ 400 := by have := ok.few; omega
  have HLn := Lib.hid hn
  rw [hn] at own2 ⊢
  have O2 := Lib.hid (own2.mono hb1.size)
  have BR2 := Lib.hid (BR.out.grown g2 (by intro e; injection e with e; omega))
  have E2 := Lib.hid (gb_trans (gb_below (r := some g) hb1) g2)
  have S2 := Lib.hid s2
  have hX : w.heap.size < w2.heap.size := BR2.out.lt
  clear ok own2 s2 g2 hn BR hb1 H
  go_upto_region 2 with fail
  refine named fun w3 H3 => ?_
  have P := Lib.hid (show HuW w w3 g (K + 1000) w2.heap.size A n c rs by
    rw [H3.out]
    exact ⟨O2.out.alloc _, BR2.out.alloc _, Blk.new _ _ _, S2.out.next ((Below.refl _ _).alloc (Nat.le_refl _) _), gb_next E2.out ((Below.refl _ _).alloc (Nat.le_refl _) _), HG, hX⟩)
  clear H3 O2 BR2 E2 S2
  generalize hK1 : K + 1000 = K1 at *
  go_cut [4, 5] from 6 (fun p_ k_ wx => ∃ (a4 : Nat) (A2 : Option Addr) (n2 c2 : Nat) (k : Int), p_ = .pointer (some ⟨a4, 0, none⟩) ∧ k_ = .int .i64 k ∧ Hid (HuW w wx g (K1 + 2 + 2) w2.heap.size A n c rs) ∧ Hid (Blk wx a4 26 #[.slice A2 n2 c2]) ∧ Hid (k = 0 → GrAt wx w.heap.size (.slice A2 n2 c2)) ∧ Hid (w2.heap.size < a4))
  case first =>
    refine wp_region_N (fun W => W.cell? ⟨w2.heap.size, 0, none⟩ = some (.slice A n c)) [] (by kernel_rfl) ?_
    have P_0 := Lib.hid P.out.drew
    have hS0 := P_0.out.x.cell 0
    refine wpAnyN_take (i := 0) (v := ?_) rfl (by kernel_rfl) (fun _ _ _ h => h) (by rfl) (fun W hW => ?_) hS0 ?_
    rotate_left
    · have z0 := hW
      go_simp
      try with_reducible rfl
    try simp only [List.getElem_toArray, List.getElem_cons_zero, List.getElem_cons_succ, Act.put, List.setIfInBounds_toArray, List.set_cons_zero, List.set_cons_succ]
    refine wpAnyN_take (i := 1) (v := ?_) rfl (by kernel_rfl) (fun _ _ _ h => h) (by rfl) (fun W hW => ?_) hS0 ?_
    rotate_left
    · have z0 := hW
      go_simp
      try with_reducible rfl
    try simp only [List.getElem_toArray, List.getElem_cons_zero, List.getElem_cons_succ, Act.put, List.setIfInBounds_toArray, List.set_cons_zero, List.set_cons_succ]
    refine wpAnyN_take (i := 3) (v := ?_) rfl (by kernel_rfl) (fun _ _ _ h => h) (by rfl) (fun W hW => ?_) hS0 ?_
    rotate_left
    · have z0 := hW
      go_simp
      try with_reducible rfl
    try simp only [List.getElem_toArray, List.getElem_cons_zero, List.getElem_cons_succ, Act.put, List.setIfInBounds_toArray, List.set_cons_zero, List.set_cons_succ]
    clear hS0
    clear P
    generalize w3.drew = wd at *
    refine wpAnyN_2 (i := 2) (j := 11) rfl rfl (by kernel_rfl) ?_ ?_
    · intro Kc hK
      go_simp
      go_wp2_with (go_at_call 21; refine (pick_any g K1 1000000 1000000 _ P_0.out.s (by omega) (by omega) (by omega)).mono ?_; rintro e x1 ⟨v1, rfl, v10, v11, s2, g2⟩)
      have P_1 := Lib.hid (P_0.out.pick s2 g2)
      refine hK.out _ _ (fun _ => P_1.out.x.cell 0) ?_
      clear hK Kc s2 g2 P_0
      try simp only [List.getElem_toArray, List.getElem_cons_zero, List.getElem_cons_succ, Act.put, List.setIfInBounds_toArray, List.set_cons_zero, List.set_cons_succ]
      refine wpAnyN_2 (i := 4) (j := 11) rfl rfl (by kernel_rfl) ?_ ?_
      · intro Kc hK
        go_simp
        go_wp2_with (go_at_call 21; refine (pick_any g (K1 + 2) 100000 100000 _ P_1.out.s (by omega) (by omega) (by omega)).mono ?_; rintro e x2 ⟨v2, rfl, v20, v21, s2, g2⟩)
        have P_2 := Lib.hid (P_1.out.pick s2 g2)
        refine hK.out _ _ (fun _ => P_2.out.x.cell 0) ?_
        clear hK Kc s2 g2 P_1
        try simp only [List.getElem_toArray, List.getElem_cons_zero, List.getElem_cons_succ, Act.put, List.setIfInBounds_toArray, List.set_cons_zero, List.set_cons_succ]
        have hm := mul_pick v10 v11 v20 v21
        have um1 : IntKind.i64.wrap (v1 * v2) = v1 * v2 := by rw [IntWalk.i64_in _ (by omega)]
        have um2 : IntKind.i64.wrap (1 + v1 * v2) = 1 + v1 * v2 := by rw [IntWalk.i64_in _ (by omega)]
        have hS0 := P_2.out.x.cell 0
        refine wpAnyN_take (i := 5) (v := ?_) rfl (by kernel_rfl) (fun _ _ _ h => h) (by rfl) (fun W hW => ?_) hS0 ?_
        rotate_left
        · have z0 := hW
          go_simp
          try with_reducible rfl
        try simp only [List.getElem_toArray, List.getElem_cons_zero, List.getElem_cons_succ, Act.put, List.setIfInBounds_toArray, List.set_cons_zero, List.set_cons_succ]
        refine wpAnyN_take (i := 6) (v := ?_) rfl (by kernel_rfl) (fun _ _ _ h => h) (by rfl) (fun W hW => ?_) hS0 ?_
        rotate_left
        · have z0 := hW
          go_simp
          try with_reducible rfl
        try simp only [List.getElem_toArray, List.getElem_cons_zero, List.getElem_cons_succ, Act.put, List.setIfInBounds_toArray, List.set_cons_zero, List.set_cons_succ]
        clear hS0
        clear um1 um2
        generalize v1 * v2 = t at *
        refine wpAnyN_2 (i := 7) (j := 11) rfl rfl (by kernel_rfl) ?_ ?_
        · intro Kc hK
          go_simp
          go_wp2_with (go_at_call 42; refine (powerG_any A n c rs (1 + t) _ hn0 hn1 (Rd.of_own (fun x _ => fac_len x) HLn.out P_2.out.q) HOk.out.wf HOk.out.gok (by omega) (by omega)).mono ?_; rintro e x3 hpost; obtain ⟨A2, n2, c2, k, rfl, hbl, HPk⟩ := hpost.cut)
          have P_3 := Lib.hid (P_2.out.next hbl)
          have HP := Lib.hid (fun h => (HPk h).mono P_2.out.e.size)
          refine hK.out _ _ (fun _ => P_3.out.x.cell 0) ?_
          clear hK Kc hpost hbl HPk P_2
          try simp only [List.getElem_toArray, List.getElem_cons_zero, List.getElem_cons_succ, Act.put, List.setIfInBounds_toArray, List.set_cons_zero, List.set_cons_succ]
          have hS0 := P_3.out.x.cell 0
          refine wpAnyN_take (i := 8) (v := ?_) rfl (by kernel_rfl) (fun _ _ _ h => h) (by rfl) (fun W hW => ?_) hS0 ?_
          rotate_left
          · have z0 := hW
            go_simp
            try with_reducible rfl
          try simp only [List.getElem_toArray, List.getElem_cons_zero, List.getElem_cons_succ, Act.put, List.setIfInBounds_toArray, List.set_cons_zero, List.set_cons_succ]
          refine wpAnyN_take (i := 9) (v := ?_) rfl (by kernel_rfl) (fun _ _ _ h => h) (by rfl) (fun W hW => ?_) hS0 ?_
          rotate_left
          · have z0 := hW
            go_simp
            try with_reducible rfl
          try simp only [List.getElem_toArray, List.getElem_cons_zero, List.getElem_cons_succ, Act.put, List.setIfInBounds_toArray, List.set_cons_zero, List.set_cons_succ]
          refine wpAnyN_take (i := 10) (v := ?_) rfl (by kernel_rfl) (fun _ _ _ h => h) (by rfl) (fun W hW => ?_) hS0 ?_
          rotate_left
          · have z0 := hW
            go_simp
            try with_reducible rfl
          try simp only [List.getElem_toArray, List.getElem_cons_zero, List.getElem_cons_succ, Act.put, List.setIfInBounds_toArray, List.set_cons_zero, List.set_cons_succ]
          clear hS0
          refine wpAnyN_next (i := 11) rfl (by kernel_rfl) (fun Kc hK => ?_)
          go_simp
          have P_4 := Lib.hid (P_3.out.alloc (.cells #[.slice none 0 0] 26))
          have B_4 := Lib.hid (Blk.new x3 26 #[.slice none 0 0])
          have ha4 : w2.heap.size < x3.heap.size := P_3.out.x.lt
          have HP := Lib.hid (fun h => (HP.out h).alloc (.cells #[.slice none 0 0] 26))
          refine hK.out _ _ (fun _ => P_4.out.x.cell 0) ?_
          clear hK Kc
          try simp only [List.getElem_toArray, List.getElem_cons_zero, List.getElem_cons_succ, Act.put, List.setIfInBounds_toArray, List.set_cons_zero, List.set_cons_succ]
          generalize x3.heap.size = a4 at *
          generalize x3.alloc (.cells #[.slice none 0 0] 26) = x4 at *
          clear P_3
          have BZ0 := B_4
          refine wpAnyN_next (i := 12) rfl (by kernel_rfl) (fun Kc hK => ?_)
          have b9c := B_4.out.cell 0
          have b9f := B_4.out.frozen
          have b9l := B_4.out.lt
          go_simp
          have PZ := Lib.hid (P_4.out.far (.slice A2 n2 c2) B_4.out ha4)
          have BZ := Lib.hid (B_4.out.set_ 0 (.slice A2 n2 c2))
          have OZ := Lib.hid (fun h => (HP.out h).keep BZ0.out (.slice A2 n2 c2))
          refine hK.out _ _ (fun _ => PZ.out.x.cell 0) ?_
          clear hK Kc b9c b9f b9l
          try simp only [List.getElem_toArray, List.getElem_cons_zero, List.getElem_cons_succ, Act.put, List.setIfInBounds_toArray, List.set_cons_zero, List.set_cons_succ]
          refine wpAnyN_next (i := 13) rfl (by kernel_rfl) (fun Kc hK => ?_)
          go_simp
          refine hK.out _ _ (fun _ => PZ.out.x.cell 0) ?_
          clear hK Kc
          refine wpAnyN_done (by kernel_rfl) ?_ _
          go_wp2_with fail
          go_meet
          exact ⟨a4, A2, n2, c2, k, rfl, rfl, PZ, BZ, OZ, Lib.hid (by omega)⟩
        · intro Kc hK
          go_simp
          have P_5 := Lib.hid (P_2.out.alloc (.cells #[.slice none 0 0] 26))
          have B_5 := Lib.hid (Blk.new x2 26 #[.slice none 0 0])
          have ha4 : w2.heap.size < x2.heap.size := P_2.out.x.lt
          refine hK.out _ _ (fun _ => P_5.out.x.cell 0) ?_
          clear hK Kc
          try simp only [List.getElem_toArray, List.getElem_cons_zero, List.getElem_cons_succ, Act.put, List.setIfInBounds_toArray, List.set_cons_zero, List.set_cons_succ]
          generalize x2.heap.size = a4 at *
          generalize x2.alloc (.cells #[.slice none 0 0] 26) = x5 at *
          clear P_2
          refine wpAnyN_next (i := 7) rfl (by kernel_rfl) (fun Kc hK => ?_)
          go_simp
          go_wp2_with (go_at_call 42; refine (powerG_any A n c rs (1 + t) _ hn0 hn1 (Rd.of_own (fun x _ => fac_len x) HLn.out P_5.out.q) HOk.out.wf HOk.out.gok (by omega) (by omega)).mono ?_; rintro e x6 hpost; obtain ⟨A2, n2, c2, k, rfl, hbl, HPk⟩ := hpost.cut)
          have P_6 := Lib.hid (P_5.out.next hbl)
          have HP := Lib.hid (fun h => (HPk h).mono P_5.out.e.size)
          have B_6 := Lib.hid (B_5.out.next hbl)
          refine hK.out _ _ (fun _ => P_6.out.x.cell 0) ?_
          clear hK Kc hpost hbl HPk P_5
          try simp only [List.getElem_toArray, List.getElem_cons_zero, List.getElem_cons_succ, Act.put, List.setIfInBounds_toArray, List.set_cons_zero, List.set_cons_succ]
          clear B_5
          have hS0 := P_6.out.x.cell 0
          refine wpAnyN_take (i := 8) (v := ?_) rfl (by kernel_rfl) (fun _ _ _ h => h) (by rfl) (fun W hW => ?_) hS0 ?_
          rotate_left
          · have z0 := hW
            go_simp
            try with_reducible rfl
          try simp only [List.getElem_toArray, List.getElem_cons_zero, List.getElem_cons_succ, Act.put, List.setIfInBounds_toArray, List.set_cons_zero, List.set_cons_succ]
          refine wpAnyN_take (i := 9) (v := ?_) rfl (by kernel_rfl) (fun _ _ _ h => h) (by rfl) (fun W hW => ?_) hS0 ?_
          rotate_left
          · have z0 := hW
            go_simp
            try with_reducible rfl
          try simp only [List.getElem_toArray, List.getElem_cons_zero, List.getElem_cons_succ, Act.put, List.setIfInBounds_toArray, List.set_cons_zero, List.set_cons_succ]
          refine wpAnyN_take (i := 10) (v := ?_) rfl (by kernel_rfl) (fun _ _ _ h => h) (by rfl) (fun W hW => ?_) hS0 ?_
          rotate_left
          · have z0 := hW
            go_simp
            try with_reducible rfl
          try simp only [List.getElem_toArray, List.getElem_cons_zero, List.getElem_cons_succ, Act.put, List.setIfInBounds_toArray, List.set_cons_zero, List.set_cons_succ]
          clear hS0
          have BZ0 := B_6
          refine wpAnyN_next (i := 12) rfl (by kernel_rfl) (fun Kc hK => ?_)
          have b9c := B_6.out.cell 0
          have b9f := B_6.out.frozen
          have b9l := B_6.out.lt
          go_simp
          have PZ := Lib.hid (P_6.out.far (.slice A2 n2 c2) B_6.out ha4)
          have BZ := Lib.hid (B_6.out.set_ 0 (.slice A2 n2 c2))
          have OZ := Lib.hid (fun h => (HP.out h).keep BZ0.out (.slice A2 n2 c2))
          refine hK.out _ _ (fun _ => PZ.out.x.cell 0) ?_
          clear hK Kc b9c b9f b9l
          try simp only [List.getElem_toArray, List.getElem_cons_zero, List.getElem_cons_succ, Act.put, List.setIfInBounds_toArray, List.set_cons_zero, List.set_cons_succ]
          refine wpAnyN_next (i := 13) rfl (by kernel_rfl) (fun Kc hK => ?_)
          go_simp
          refine hK.out _ _ (fun _ => PZ.out.x.cell 0) ?_
          clear hK Kc
          refine wpAnyN_done (by kernel_rfl) ?_ _
          go_wp2_with fail
          go_meet
          exact ⟨a4, A2, n2, c2, k, rfl, rfl, PZ, BZ, OZ, Lib.hid (by omega)⟩
      · intro Kc hK
        go_simp
        have P_7 := Lib.hid (P_1.out.alloc (.cells #[.slice none 0 0] 26))
        have B_7 := Lib.hid (Blk.new x1 26 #[.slice none 0 0])
        have ha4 : w2.heap.size < x1.heap.size := P_1.out.x.lt
        refine hK.out _ _ (fun _ => P_7.out.x.cell 0) ?_
        clear hK Kc
        try simp only [List.getElem_toArray, List.getElem_cons_zero, List.getElem_cons_succ, Act.put, List.setIfInBounds_toArray, List.set_cons_zero, List.set_cons_succ]
        generalize x1.heap.size = a4 at *
        generalize x1.alloc (.cells #[.slice none 0 0] 26) = x7 at *
        clear P_1
        refine wpAnyN_next (i := 4) rfl (by kernel_rfl) (fun Kc hK => ?_)
        go_simp
        go_wp2_with (go_at_call 21; refine (pick_any g (K1 + 2) 100000 100000 _ P_7.out.s (by omega) (by omega) (by omega)).mono ?_; rintro e x8 ⟨v2, rfl, v20, v21, s2, g2⟩)
        have P_8 := Lib.hid (P_7.out.pick s2 g2)
        have B_8 := Lib.hid (B_7.out.grown g2 (by intro e; injection e with e; have := HG; omega))
        refine hK.out _ _ (fun _ => P_8.out.x.cell 0) ?_
        clear hK Kc s2 g2 P_7
        try simp only [List.getElem_toArray, List.getElem_cons_zero, List.getElem_cons_succ, Act.put, List.setIfInBounds_toArray, List.set_cons_zero, List.set_cons_succ]
        clear B_7
        have hm := mul_pick v10 v11 v20 v21
        have um1 : IntKind.i64.wrap (v1 * v2) = v1 * v2 := by rw [IntWalk.i64_in _ (by omega)]
        have um2 : IntKind.i64.wrap (1 + v1 * v2) = 1 + v1 * v2 := by rw [IntWalk.i64_in _ (by omega)]
        have hS0 := P_8.out.x.cell 0
        refine wpAnyN_take (i := 5) (v := ?_) rfl (by kernel_rfl) (fun _ _ _ h => h) (by rfl) (fun W hW => ?_) hS0 ?_
        rotate_left
        · have z0 := hW
          go_simp
          try with_reducible rfl
        try simp only [List.getElem_toArray, List.getElem_cons_zero, List.getElem_cons_succ, Act.put, List.setIfInBounds_toArray, List.set_cons_zero, List.set_cons_succ]
        refine wpAnyN_take (i := 6) (v := ?_) rfl (by kernel_rfl) (fun _ _ _ h => h) (by rfl) (fun W hW => ?_) hS0 ?_
        rotate_left
        · have z0 := hW
          go_simp
          try with_reducible rfl
        try simp only [List.getElem_toArray, List.getElem_cons_zero, List.getElem_cons_succ, Act.put, List.setIfInBounds_toArray, List.set_cons_zero, List.set_cons_succ]
        clear hS0
        clear um1 um2
        generalize v1 * v2 = t at *
        refine wpAnyN_next (i := 7) rfl (by kernel_rfl) (fun Kc hK => ?_)
        go_simp
        go_wp2_with (go_at_call 42; refine (powerG_any A n c rs (1 + t) _ hn0 hn1 (Rd.of_own (fun x _ => fac_len x) HLn.out P_8.out.q) HOk.out.wf HOk.out.gok (by omega) (by omega)).mono ?_; rintro e x9 hpost; obtain ⟨A2, n2, c2, k, rfl, hbl, HPk⟩ := hpost.cut)
        have P_9 := Lib.hid (P_8.out.next hbl)
        have HP := Lib.hid (fun h => (HPk h).mono P_8.out.e.size)
        have B_9 := Lib.hid (B_8.out.next hbl)
        refine hK.out _ _ (fun _ => P_9.out.x.cell 0) ?_
        clear hK Kc hpost hbl HPk P_8
        try simp only [List.getElem_toArray, List.getElem_cons_zero, List.getElem_cons_succ, Act.put, List.setIfInBounds_toArray, List.set_cons_zero, List.set_cons_succ]
        clear B_8
        have hS0 := P_9.out.x.cell 0
        refine wpAnyN_take (i := 8) (v := ?_) rfl (by kernel_rfl) (fun _ _ _ h => h) (by rfl) (fun W hW => ?_) hS0 ?_
        rotate_left
        · have z0 := hW
          go_simp
          try with_reducible rfl
        try simp only [List.getElem_toArray, List.getElem_cons_zero, List.getElem_cons_succ, Act.put, List.setIfInBounds_toArray, List.set_cons_zero, List.set_cons_succ]
        refine wpAnyN_take (i := 9) (v := ?_) rfl (by kernel_rfl) (fun _ _ _ h => h) (by rfl) (fun W hW => ?_) hS0 ?_
        rotate_left
        · have z0 := hW
          go_simp
          try with_reducible rfl
        try simp only [List.getElem_toArray, List.getElem_cons_zero, List.getElem_cons_succ, Act.put, List.setIfInBounds_toArray, List.set_cons_zero, List.set_cons_succ]
        refine wpAnyN_take (i := 10) (v := ?_) rfl (by kernel_rfl) (fun _ _ _ h => h) (by rfl) (fun W hW => ?_) hS0 ?_
        rotate_left
        · have z0 := hW
          go_simp
          try with_reducible rfl
        try simp only [List.getElem_toArray, List.getElem_cons_zero, List.getElem_cons_succ, Act.put, List.setIfInBounds_toArray, List.set_cons_zero, List.set_cons_succ]
        clear hS0
        have BZ0 := B_9
        refine wpAnyN_next (i := 12) rfl (by kernel_rfl) (fun Kc hK => ?_)
        have b9c := B_9.out.cell 0
        have b9f := B_9.out.frozen
        have b9l := B_9.out.lt
        go_simp
        have PZ := Lib.hid (P_9.out.far (.slice A2 n2 c2) B_9.out ha4)
        have BZ := Lib.hid (B_9.out.set_ 0 (.slice A2 n2 c2))
        have OZ := Lib.hid (fun h => (HP.out h).keep BZ0.out (.slice A2 n2 c2))
        refine hK.out _ _ (fun _ => PZ.out.x.cell 0) ?_
        clear hK Kc b9c b9f b9l
        try simp only [List.getElem_toArray, List.getElem_cons_zero, List.getElem_cons_succ, Act.put, List.setIfInBounds_toArray, List.set_cons_zero, List.set_cons_succ]
        refine wpAnyN_next (i := 13) rfl (by kernel_rfl) (fun Kc hK => ?_)
        go_simp
        refine hK.out _ _ (fun _ => PZ.out.x.cell 0) ?_
        clear hK Kc
        refine wpAnyN_done (by kernel_rfl) ?_ _
        go_wp2_with fail
        go_meet
        exact ⟨a4, A2, n2, c2, k, rfl, rfl, PZ, BZ, OZ, Lib.hid (by omega)⟩
    · intro Kc hK
      go_simp
      have P_10 := Lib.hid (P_0.out.alloc (.cells #[.slice none 0 0] 26))
      have B_10 := Lib.hid (Blk.new wd 26 #[.slice none 0 0])
      have ha4 : w2.heap.size < wd.heap.size := P_0.out.x.lt
      refine hK.out _ _ (fun _ => P_10.out.x.cell 0) ?_
      clear hK Kc
      try simp only [List.getElem_toArray, List.getElem_cons_zero, List.getElem_cons_succ, Act.put, List.setIfInBounds_toArray, List.set_cons_zero, List.set_cons_succ]
      generalize wd.heap.size = a4 at *
      generalize wd.alloc (.cells #[.slice none 0 0] 26) = x10 at *
      clear P_0
      refine wpAnyN_next (i := 2) rfl (by kernel_rfl) (fun Kc hK => ?_)
      go_simp
      go_wp2_with (go_at_call 21; refine (pick_any g K1 1000000 1000000 _ P_10.out.s (by omega) (by omega) (by omega)).mono ?_; rintro e x11 ⟨v1, rfl, v10, v11, s2, g2⟩)
      have P_11 := Lib.hid (P_10.out.pick s2 g2)
      have B_11 := Lib.hid (B_10.out.grown g2 (by intro e; injection e with e; have := HG; omega))
      refine hK.out _ _ (fun _ => P_11.out.x.cell 0) ?_
      clear hK Kc s2 g2 P_10
      try simp only [List.getElem_toArray, List.getElem_cons_zero, List.getElem_cons_succ, Act.put, List.setIfInBounds_toArray, List.set_cons_zero, List.set_cons_succ]
      clear B_10
      refine wpAnyN_next (i := 4) rfl (by kernel_rfl) (fun Kc hK => ?_)
      go_simp
      go_wp2_with (go_at_call 21; refine (pick_any g (K1 + 2) 100000 100000 _ P_11.out.s (by omega) (by omega) (by omega)).mono ?_; rintro e x12 ⟨v2, rfl, v20, v21, s2, g2⟩)
      have P_12 := Lib.hid (P_11.out.pick s2 g2)
      have B_12 := Lib.hid (B_11.out.grown g2 (by intro e; injection e with e; have := HG; omega))
      refine hK.out _ _ (fun _ => P_12.out.x.cell 0) ?_
      clear hK Kc s2 g2 P_11
      try simp only [List.getElem_toArray, List.getElem_cons_zero, List.getElem_cons_succ, Act.put, List.setIfInBounds_toArray, List.set_cons_zero, List.set_cons_succ]
      clear B_11
      have hm := mul_pick v10 v11 v20 v21
      have um1 : IntKind.i64.wrap (v1 * v2) = v1 * v2 := by rw [IntWalk.i64_in _ (by omega)]
      have um2 : IntKind.i64.wrap (1 + v1 * v2) = 1 + v1 * v2 := by rw [IntWalk.i64_in _ (by omega)]
      have hS0 := P_12.out.x.cell 0
      refine wpAnyN_take (i := 5) (v := ?_) rfl (by kernel_rfl) (fun _ _ _ h => h) (by rfl) (fun W hW => ?_) hS0 ?_
      rotate_left
      · have z0 := hW
        go_simp
        try with_reducible rfl
      try simp only [List.getElem_toArray, List.getElem_cons_zero, List.getElem_cons_succ, Act.put, List.setIfInBounds_toArray, List.set_cons_zero, List.set_cons_succ]
      refine wpAnyN_take (i := 6) (v := ?_) rfl (by kernel_rfl) (fun _ _ _ h => h) (by rfl) (fun W hW => ?_) hS0 ?_
      rotate_left
      · have z0 := hW
        go_simp
        try with_reducible rfl
      try simp only [List.getElem_toArray, List.getElem_cons_zero, List.getElem_cons_succ, Act.put, List.setIfInBounds_toArray, List.set_cons_zero, List.set_cons_succ]
      clear hS0
      clear um1 um2
      generalize v1 * v2 = t at *
      refine wpAnyN_next (i := 7) rfl (by kernel_rfl) (fun Kc hK => ?_)
      go_simp
      go_wp2_with (go_at_call 42; refine (powerG_any A n c rs (1 + t) _ hn0 hn1 (Rd.of_own (fun x _ => fac_len x) HLn.out P_12.out.q) HOk.out.wf HOk.out.gok (by omega) (by omega)).mono ?_; rintro e x13 hpost; obtain ⟨A2, n2, c2, k, rfl, hbl, HPk⟩ := hpost.cut)
      have P_13 := Lib.hid (P_12.out.next hbl)
      have HP := Lib.hid (fun h => (HPk h).mono P_12.out.e.size)
      have B_13 := Lib.hid (B_12.out.next hbl)
      refine hK.out _ _ (fun _ => P_13.out.x.cell 0) ?_
      clear hK Kc hpost hbl HPk P_12
      try simp only [List.getElem_toArray, List.getElem_cons_zero, List.getElem_cons_succ, Act.put, List.setIfInBounds_toArray, List.set_cons_zero, List.set_cons_succ]
      clear B_12
      have hS0 := P_13.out.x.cell 0
      refine wpAnyN_take (i := 8) (v := ?_) rfl (by kernel_rfl) (fun _ _ _ h => h) (by rfl) (fun W hW => ?_) hS0 ?_
      rotate_left
      · have z0 := hW
        go_simp
        try with_reducible rfl
      try simp only [List.getElem_toArray, List.getElem_cons_zero, List.getElem_cons_succ, Act.put, List.setIfInBounds_toArray, List.set_cons_zero, List.set_cons_succ]
      refine wpAnyN_take (i := 9) (v := ?_) rfl (by kernel_rfl) (fun _ _ _ h => h) (by rfl) (fun W hW => ?_) hS0 ?_
      rotate_left
      · have z0 := hW
        go_simp
        try with_reducible rfl
      try simp only [List.getElem_toArray, List.getElem_cons_zero, List.getElem_cons_succ, Act.put, List.setIfInBounds_toArray, List.set_cons_zero, List.set_cons_succ]
      refine wpAnyN_take (i := 10) (v := ?_) rfl (by kernel_rfl) (fun _ _ _ h => h) (by rfl) (fun W hW => ?_) hS0 ?_
      rotate_left
      · have z0 := hW
        go_simp
        try with_reducible rfl
      try simp only [List.getElem_toArray, List.getElem_cons_zero, List.getElem_cons_succ, Act.put, List.setIfInBounds_toArray, List.set_cons_zero, List.set_cons_succ]
      clear hS0
      have BZ0 := B_13
      refine wpAnyN_next (i := 12) rfl (by kernel_rfl) (fun Kc hK => ?_)
      have b9c := B_13.out.cell 0
      have b9f := B_13.out.frozen
      have b9l := B_13.out.lt
      go_simp
      have PZ := Lib.hid (P_13.out.far (.slice A2 n2 c2) B_13.out ha4)
      have BZ := Lib.hid (B_13.out.set_ 0 (.slice A2 n2 c2))
      have OZ := Lib.hid (fun h => (HP.out h).keep BZ0.out (.slice A2 n2 c2))
      refine hK.out _ _ (fun _ => PZ.out.x.cell 0) ?_
      clear hK Kc b9c b9f b9l
      try simp only [List.getElem_toArray, List.getElem_cons_zero, List.getElem_cons_succ, Act.put, List.setIfInBounds_toArray, List.set_cons_zero, List.set_cons_succ]
      refine wpAnyN_next (i := 13) rfl (by kernel_rfl) (fun Kc hK => ?_)
      go_simp
      refine hK.out _ _ (fun _ => PZ.out.x.cell 0) ?_
      clear hK Kc
      refine wpAnyN_done (by kernel_rfl) ?_ _
      go_wp2_with fail
      go_meet
      exact ⟨a4, A2, n2, c2, k, rfl, rfl, PZ, BZ, OZ, Lib.hid (by omega)⟩
  case rest =>
    obtain ⟨a4, A2, n2, c2, k, rfl, rfl, P2, B2, O2, hX4⟩ := hcut
    clear P
    have x0 := P2.out.x.cell 0
    have xl := P2.out.x.lt
    have y0 := B2.out.cell 0
    have yl := B2.out.lt
    have r0 := P2.out.r.cell 0
    have rf := P2.out.r.frozen
    have rl := P2.out.r.lt
    by_cases hk0 : k = 0
    · subst hk0
      have G2 := O2.out rfl
      go_wp2_with fail
      refine (one_any g (K1 + 2 + 2) 2 wc P2.out.s (by omega) (by omega)).mono ?_
      rintro e w3 ⟨b, rfl, s3, g3⟩
      have P3 := Lib.hid (P2.out.pick s3 g3)
      have B3 := Lib.hid (B2.out.grown g3 (by intro e; injection e with e; have := hX4.out; omega))
      have G3 := Lib.hid (G2.draw g3 HG)
      clear P2 B2 G2 O2 s3 g3 x0 xl y0 yl r0 rf rl
      have x0 := P3.out.x.cell 0
      have xl := P3.out.x.lt
      have y0 := B3.out.cell 0
      have yl := B3.out.lt
      have r0 := P3.out.r.cell 0
      have rf := P3.out.r.frozen
      have rl := P3.out.r.lt
      cases b
      · go_wp2_with fail
        have x8 := HuW.x8 P3.out (.slice A2 n2 c2)
        exact bodyPost_ret (v := .agg #[.slice A2 n2 c2]) (by simp [results, Try.results17, go_sem, x8]) rfl (HuW.tell P3.out G3.out (by omega))
      · obtain ⟨A2', c2', rs2, hv, Gi⟩ := G3.out
        injection hv with ha hb hc
        subst ha; subst hb; subst hc
        go_upto_region 6 with fail
        go_cut [4, 5] from 6 (fun p_ k_ wx => ∃ (A2 : Option Addr) (n2 c2 : Nat) (k : Int), p_ = .pointer (some ⟨a4, 0, none⟩) ∧ k_ = .int .i64 k ∧ Hid (HuW w wx g (K1 + 2 + 2 + 2 + 1000) w2.heap.size A n c rs) ∧ Hid (Blk wx a4 26 #[.slice A2 n2 c2]) ∧ Hid (k = 0 → GrAt wx w.heap.size (.slice A2 n2 c2)))
        case first =>
          refine wp_region_N (fun W => W.cell? ⟨a4, 0, none⟩ = some (.slice A2 rs2.length c2)) [6, 7, 8] (by kernel_rfl) ?_
          have P_0 := Lib.hid P3.out.drew
          have B_0 := Lib.hid B3.out.drew
          have Gi_0 := Lib.hid (Gi.next (Below.refl _ _).drew)
          have hS0 := B_0.out.cell 0
          refine wpAnyN_take (i := 0) (v := ?_) rfl (by kernel_rfl) (fun _ _ _ h => h) (by rfl) (fun W hW => ?_) hS0 ?_
          rotate_left
          · have z0 := hW
            go_simp
            try with_reducible rfl
          try simp only [List.getElem_toArray, List.getElem_cons_zero, List.getElem_cons_succ, Act.put, List.setIfInBounds_toArray, List.set_cons_zero, List.set_cons_succ]
          refine wpAnyN_take (i := 1) (v := ?_) rfl (by kernel_rfl) (fun _ _ _ h => h) (by rfl) (fun W hW => ?_) hS0 ?_
          rotate_left
          · have z0 := hW
            go_simp
            try with_reducible rfl
          try simp only [List.getElem_toArray, List.getElem_cons_zero, List.getElem_cons_succ, Act.put, List.setIfInBounds_toArray, List.set_cons_zero, List.set_cons_succ]
          clear hS0 P3 B3 Gi x0 xl y0 yl r0 rf rl
          generalize w3.drew = wd at *
          refine wpAnyN_next (i := 2) rfl (by kernel_rfl) (fun Kc hK => ?_)
          go_simp
          go_wp2_with (go_at_call 20; refine (l02Drawn_any g (K1 + 2 + 2 + 2) 100 wd P_0.out.s (by omega) (by omega) (by omega)).mono ?_; rintro e x1 ⟨A3, c3, rs3, rfl, ok3, own3, s3, g3⟩)
          have P_1 := Lib.hid (P_0.out.pick s3 g3)
          have B_1 := Lib.hid (B_0.out.grown g3 (by intro e; injection e with e; have := hX4.out; omega))
          have Gi_1 := Lib.hid (show GrIn x1 w.heap.size A2 c2 rs2 from ⟨Gi_0.out.wf, Gi_0.out.pos, Gi_0.out.ok, own_kept Gi_0.out.own g3 HG⟩)
          have O3 := Lib.hid own3
          have Ok3 := Lib.hid ok3
          refine hK.out _ _ (fun _ => B_1.out.cell 0) ?_
          clear hK Kc s3 g3 own3 ok3 P_0 B_0 Gi_0
          try simp only [List.getElem_toArray, List.getElem_cons_zero, List.getElem_cons_succ, Act.put, List.setIfInBounds_toArray, List.set_cons_zero, List.set_cons_succ]
          have hp3 := Ok3.out.pos
          have hp2 := Gi_1.out.pos
          refine wpAnyN_next (i := 3) rfl (by kernel_rfl) (fun Kc hK => ?_)
          go_simp
          go_wp2_with (go_at_call 44; refine (joinG_any A2 rs2.length c2 rs2 A3 rs3.length c3 rs3 x1 hp2 hp3 (Rd.of_own (fun x _ => fac_len x) rfl Gi_1.out.own) (Rd.of_own (fun x _ => fac_len x) rfl O3.out) Gi_1.out.wf Ok3.out.wf Gi_1.out.ok Ok3.out.gok).mono ?_; rintro e x2 hpost; obtain ⟨A9, n9, c9, k9, rfl, hbl, HPk⟩ := join_cut hpost (join_wf Gi_1.out.wf Ok3.out.wf) (join_pos hp2))
          have P_2 := Lib.hid (P_1.out.next hbl)
          have B_2 := Lib.hid (B_1.out.next hbl)
          have H9 := Lib.hid (fun h => (HPk h).mono P_1.out.e.size)
          refine hK.out _ _ (fun _ => B_2.out.cell 0) ?_
          clear hK Kc hpost hbl HPk P_1 B_1
          try simp only [List.getElem_toArray, List.getElem_cons_zero, List.getElem_cons_succ, Act.put, List.setIfInBounds_toArray, List.set_cons_zero, List.set_cons_succ]
          have hS0 := B_2.out.cell 0
          refine wpAnyN_take (i := 4) (v := ?_) rfl (by kernel_rfl) (fun _ _ _ h => h) (by rfl) (fun W hW => ?_) hS0 ?_
          rotate_left
          · have z0 := hW
            go_simp
            try with_reducible rfl
          try simp only [List.getElem_toArray, List.getElem_cons_zero, List.getElem_cons_succ, Act.put, List.setIfInBounds_toArray, List.set_cons_zero, List.set_cons_succ]
          refine wpAnyN_2 (i := 5) (j := 6) rfl rfl (by kernel_rfl) ?_ ?_
          · intro Kc hK
            go_simp
            refine hK.out _ _ (fun _ => hS0) ?_
            clear hK Kc
            try simp only [List.getElem_toArray, List.getElem_cons_zero, List.getElem_cons_succ, Act.put, List.setIfInBounds_toArray, List.set_cons_zero, List.set_cons_succ]
            refine wpAnyN_2 (i := 6) (j := 7) rfl rfl (by kernel_rfl) ?_ ?_
            · intro Kc hK
              go_simp
              refine hK.out _ _ (fun h => absurd h (by decide)) ?_
              clear hK Kc
              try simp only [List.getElem_toArray, List.getElem_cons_zero, List.getElem_cons_succ, Act.put, List.setIfInBounds_toArray, List.set_cons_zero, List.set_cons_succ]
              refine wpAnyN_next (i := 7) rfl (by kernel_rfl) (fun Kc hK => ?_)
              have b9c := B_2.out.cell 0
              have b9f := B_2.out.frozen
              have b9l := B_2.out.lt
              go_simp
              have PZ := Lib.hid (P_2.out.far (.slice A9 n9 c9) B_2.out hX4.out)
              have BZ := Lib.hid (B_2.out.set_ 0 (.slice A9 n9 c9))
              have HZ := Lib.hid (fun h => (H9.out h).keep B_2.out (.slice A9 n9 c9))
              refine hK.out _ _ (fun h => absurd h (by decide)) ?_
              clear hK Kc b9c b9f b9l hS0
              try simp only [List.getElem_toArray, List.getElem_cons_zero, List.getElem_cons_succ, Act.put, List.setIfInBounds_toArray, List.set_cons_zero, List.set_cons_succ]
              refine wpAnyN_next (i := 8) rfl (by kernel_rfl) (fun Kc hK => ?_)
              go_simp
              refine hK.out _ _ (fun h => absurd h (by decide)) ?_
              clear hK Kc
              refine wpAnyN_done (by kernel_rfl) ?_ _
              go_wp2_with fail
              go_meet
              exact ⟨A9, n9, c9, k9, rfl, rfl, PZ, BZ, HZ⟩
            · intro Kc hK
              have b9c := B_2.out.cell 0
              have b9f := B_2.out.frozen
              have b9l := B_2.out.lt
              go_simp
              have PZ := Lib.hid (P_2.out.far (.slice A9 n9 c9) B_2.out hX4.out)
              have BZ := Lib.hid (B_2.out.set_ 0 (.slice A9 n9 c9))
              have HZ := Lib.hid (fun h => (H9.out h).keep B_2.out (.slice A9 n9 c9))
              refine hK.out _ _ (fun h => absurd h (by decide)) ?_
              clear hK Kc b9c b9f b9l hS0
              try simp only [List.getElem_toArray, List.getElem_cons_zero, List.getElem_cons_succ, Act.put, List.setIfInBounds_toArray, List.set_cons_zero, List.set_cons_succ]
              refine wpAnyN_next (i := 6) rfl (by kernel_rfl) (fun Kc hK => ?_)
              go_simp
              refine hK.out _ _ (fun h => absurd h (by decide)) ?_
              clear hK Kc
              try simp only [List.getElem_toArray, List.getElem_cons_zero, List.getElem_cons_succ, Act.put, List.setIfInBounds_toArray, List.set_cons_zero, List.set_cons_succ]
              refine wpAnyN_next (i := 8) rfl (by kernel_rfl) (fun Kc hK => ?_)
              go_simp
              refine hK.out _ _ (fun h => absurd h (by decide)) ?_
              clear hK Kc
              refine wpAnyN_done (by kernel_rfl) ?_ _
              go_wp2_with fail
              go_meet
              exact ⟨A9, n9, c9, k9, rfl, rfl, PZ, BZ, HZ⟩
          · intro Kc hK
            go_simp
            refine hK.out _ _ (fun h => absurd h (by decide)) ?_
            clear hK Kc
            try simp only [List.getElem_toArray, List.getElem_cons_zero, List.getElem_cons_succ, Act.put, List.setIfInBounds_toArray, List.set_cons_zero, List.set_cons_succ]
            refine wpAnyN_next (i := 5) rfl (by kernel_rfl) (fun Kc hK => ?_)
            go_simp
            refine hK.out _ _ (fun _ => hS0) ?_
            clear hK Kc
            try simp only [List.getElem_toArray, List.getElem_cons_zero, List.getElem_cons_succ, Act.put, List.setIfInBounds_toArray, List.set_cons_zero, List.set_cons_succ]
            refine wpAnyN_next (i := 7) rfl (by kernel_rfl) (fun Kc hK => ?_)
            have b9c := B_2.out.cell 0
            have b9f := B_2.out.frozen
            have b9l := B_2.out.lt
            go_simp
            have PZ := Lib.hid (P_2.out.far (.slice A9 n9 c9) B_2.out hX4.out)
            have BZ := Lib.hid (B_2.out.set_ 0 (.slice A9 n9 c9))
            have HZ := Lib.hid (fun h => (H9.out h).keep B_2.out (.slice A9 n9 c9))
            refine hK.out _ _ (fun h => absurd h (by decide)) ?_
            clear hK Kc b9c b9f b9l hS0
            try simp only [List.getElem_toArray, List.getElem_cons_zero, List.getElem_cons_succ, Act.put, List.setIfInBounds_toArray, List.set_cons_zero, List.set_cons_succ]
            refine wpAnyN_next (i := 8) rfl (by kernel_rfl) (fun Kc hK => ?_)
            go_simp
            refine hK.out _ _ (fun h => absurd h (by decide)) ?_
            clear hK Kc
            refine wpAnyN_done (by kernel_rfl) ?_ _
            go_wp2_with fail
            go_meet
            exact ⟨A9, n9, c9, k9, rfl, rfl, PZ, BZ, HZ⟩
        case rest =>
          obtain ⟨A9, n9, c9, k, rfl, rfl, P4, B4, G4⟩ := hcut
          clear P3 B3 G3 Gi x0 xl y0 yl r0 rf rl
          have x0 := P4.out.x.cell 0
          have xl := P4.out.x.lt
          have y0 := B4.out.cell 0
          have yl := B4.out.lt
          have r0 := P4.out.r.cell 0
          have rf := P4.out.r.frozen
          have rl := P4.out.r.lt
          by_cases hk0 : k = 0
          · subst hk0
            have G5 := G4.out rfl
            go_wp2_with fail
            have x8 := HuW.x8 P4.out (.slice A9 n9 c9)
            exact bodyPost_ret (v := .agg #[.slice A9 n9 c9]) (by simp [results, Try.results17, go_sem, x8]) rfl (HuW.tell P4.out G5 (by omega))
          · have hk1 : (k == 0) = false := by simpa using hk0
            go_wp2_with fail
            have x8 := HuW.x8 P4.out (.slice A n c)
            exact bodyPost_ret (v := .agg #[.slice A n c]) (by simp [results, Try.results17, go_sem, x8]) rfl (HuW.tell P4.out ⟨A, c, rs, by rw [HLn.out], HOk.out.wf, by rw [HLn.out]; exact hn0, HOk.out.gok, by rw [HLn.out]; exact P4.out.q⟩ (by omega))
    · have hk1 : (k == 0) = false := by simpa using hk0
      go_wp2_with fail
      have x8 := HuW.x8 P2.out (.slice A n c)
      exact bodyPost_ret (v := .agg #[.slice A n c]) (by simp [results, Try.results17, go_sem, x8]) rfl (HuW.tell P2.out ⟨A, c, rs, by rw [HLn.out], HOk.out.wf, by rw [HLn.out]; exact hn0, HOk.out.gok, by rw [HLn.out]; exact P2.out.q⟩ (by omega))
end Go.Proofs.Ytajfjgemfnfakaa


/-
  What laws draw: a long word's grammar, a number, a letter.
-/
namespace Go.Proofs.Ytajfjgemfnfakaa
open Go.RowKit

/-- a grammar that is drawn, whose word has at most a quarter of the most letters -/
def HgNew (w : World) (e : Ending) (w' : World) : Prop :=
  ∃ A c rs, e = .returned (.agg #[.slice A rs.length c]) ∧ GrIn w' w.heap.size A c rs ∧ (wdN rs).length ≤ 250000000000000 ∧ Below w.heap.size w w'
theorem big_lens {rs : List Fac} (h : (gOk rs).isSome = true) : ∃ ls, gLens rs [] = some ls ∧ rs.length ≤ 400 ∧ ls.length = rs.length := by
  obtain ⟨ls, hls⟩ := Option.isSome_iff_exists.1 h
  exact ⟨ls, (gOk_lens hls).1, (gOk_lens hls).2.1, (gOk_lens hls).2.2⟩
set_option maxHeartbeats 2000000 in
set_option maxRecDepth 100000 in
theorem p6Huge_any (A : Option Addr) (n c : Nat) (bs : List UInt8) (w : World) (hn : n ≤ 4096) (hr : Rd w w.heap.size A n 1 byteE bs) :
    Calls Try.prog 5 #[.slice A n c] w (HgNew w) := by
  have HR := Lib.hid hr; clear hr
  go_enter Try.func5, Try.ntmps5
  go_wp2_with fail
  refine namedC fun w0 H0 => ?_
  have hb0 : Below w.heap.size w w0 := by rw [H0.out]; (repeat first | exact Below.refl _ _ | assumption | refine Below.drew ?_ | refine Below.alloc ?_ (by first | exact Nat.le_refl _ | (simp; done) | omega | (simp; omega)) _ | refine Below.setCell ?_ (by first | exact Nat.le_refl _ | (simp; done) | omega | (simp; omega)) _)
  have B0 := Lib.hid (show Blk w0 w.heap.size 26 #[.slice none 0 0] by rw [H0.out]; exact Blk.new _ _ _)
  clear H0
  refine (l00From_any A n c bs w0 hn (HR.out.next hb0)).mono ?_
  rintro e w1 ⟨g, rfl, hg, s1, hb1⟩
  have b1 := Lib.hid (hb0.trans (hb1.mono hb0.size))
  have B1 := Lib.hid (B0.out.next hb1)
  have hg2 : w.heap.size < g := by have := B0.out.lt; omega
  have S1 := Lib.hid s1
  clear s1 hb1 hb0 B0
  go_wp2_with fail
  go_loopw [4] (fun i_ w' => ∃ i : Nat, i_ = .int .i64 i ∧ i ≤ 3 ∧ Hid (Src w' g (3000 * i)) ∧ Hid (Below w.heap.size w w') ∧ Hid (Blk w' w.heap.size 26 #[.slice none 0 0])) (fun i_ _ => 3 - (intOf i_).toNat)
  case atStart => exact ⟨0, rfl, by omega, S1, b1, B1⟩
  case round =>
    obtain ⟨i, rfl, hi, S2, b2, B2⟩ := hrel
    clear S1 b1 B1
    by_cases hlt : i < 3
    · have i1 : (i : Int) < 3 := by omega
      go_wp2_with fail
      refine (l02Huge_any g (3000 * i) wr S2.out (by omega)).mono ?_
      rintro e w3 ⟨A3, c3, rs, rfl, gi, s3, g3⟩
      have S3 := Lib.hid (s3.next ((Below.refl _ _).alloc (Nat.le_refl _) (.cells #[.slice A3 rs.length c3] 26)))
      have b3 := Lib.hid ((b2.out.grown g3 b2.out.size (fun k e => by injection e; omega)).alloc (Nat.le_trans b2.out.size g3.size) (.cells #[.slice A3 rs.length c3] 26))
      have B3 := Lib.hid ((B2.out.grown g3 (by intro e; injection e with e; omega)).alloc (.cells #[.slice A3 rs.length c3] 26))
      have G3 := Lib.hid ((gi.mono b2.out.size).next ((Below.refl _ _).alloc (Nat.le_refl _) (.cells #[.slice A3 rs.length c3] 26)))
      have X3 := Lib.hid (Blk.new w3 26 #[.slice A3 rs.length c3])
      have hxx : w.heap.size < w3.heap.size := by have := g3.size; have := B2.out.lt; omega
      clear S2 b2 B2 s3 g3 gi
      generalize hw4 : w3.alloc (.cells #[.slice A3 rs.length c3] 26) = w4 at *
      obtain ⟨ls, hls, hlen, hll⟩ := big_lens G3.out.ok
      have HLS := Lib.hid hls
      have hlast := last_word hls
      have Z3 := Lib.hid (wf_sz G3.out.wf)
      have R3 := Lib.hid (Rd.of_own (fun x _ => fac_len x) rfl G3.out.own)
      have OK3 := Lib.hid G3.out.ok
      obtain ⟨v, hv⟩ : ∃ v, lastI ls = v := ⟨_, rfl⟩
      have Hv := Lib.hid hv
      clear hls
      go_wp2_with fail
      refine (l02Ok_any w3.heap.size A3 rs.length c3 rs w4 X3.out.lt (X3.out.cell 0) (by omega) R3.out Z3.out true OK3.out).mono ?_
      rintro e w5 ⟨rfl, hb5⟩
      have S5 := Lib.hid (S3.out.next hb5)
      have b5 := Lib.hid (b3.out.trans (hb5.mono b3.out.size))
      have B5 := Lib.hid (B3.out.next hb5)
      have G5 := Lib.hid (G3.out.next hb5)
      have X5 := Lib.hid (X3.out.next hb5)
      have R5 := Lib.hid (Rd.of_own (fun x _ => fac_len x) rfl G5.out.own)
      clear S3 b3 B3 G3 X3 hb5 hw4 R3
      go_wp2_with fail
      refine (l02Length_any w3.heap.size A3 rs.length c3 rs w5 X5.out.lt (X5.out.cell 0) (by omega) R5.out Z3.out ls HLS.out).mono ?_
      rintro e w6 ⟨rfl, hb6⟩
      have S6 := Lib.hid (S5.out.next hb6)
      have b6 := Lib.hid (b5.out.trans (hb6.mono b5.out.size))
      have B6 := Lib.hid (B5.out.next hb6)
      have G6 := Lib.hid (G5.out.next hb6)
      have X6 := Lib.hid (X5.out.next hb6)
      clear S5 b5 B5 G5 X5 hb6 R5
      rw [Hv.out]
      by_cases hle : v ≤ 250000000000000
      · have hle1 := decide_eq_true hle
        have x0 := X6.out.cell 0
        have xl := X6.out.lt
        have r0 := B6.out.cell 0
        have rf := B6.out.frozen
        have rl := B6.out.lt
        have x8 : (w6.setCell ⟨w.heap.size, 0, none⟩ (.slice A3 rs.length c3)).cell? ⟨w.heap.size, 0, none⟩ = some (.slice A3 rs.length c3) := by rw [(B6.out.set_ 0 (.slice A3 rs.length c3)).cell 0]; rfl
        have b8 := Lib.hid (b6.out.setCell (p := ⟨w.heap.size, 0, none⟩) (Nat.le_refl _) (.slice A3 rs.length c3))
        have O8 := Lib.hid (own_kept' (i := 0) G6.out.own B6.out (by decide) (.slice A3 rs.length c3))
        go_wp2_with fail
        refine bodyPost_ret (v := .agg #[.slice A3 rs.length c3]) (by simp [results, Try.results5, go_sem, x8]) rfl ?_
        exact ⟨A3, c3, rs, rfl, ⟨G6.out.wf, G6.out.pos, G6.out.ok, O8.out⟩, by omega, b8.out⟩
      · have hle1 := decide_eq_false hle
        go_wp2_with fail
        go_roundw
        case rel => exact ⟨i + 1, by go_num, by omega, Lib.hid (S6.out.mono (by omega)), b6, B6⟩
        case measure => simp [intOf]; omega
    · have i1 : ¬ ((i : Int) < 3) := by omega
      go_wp2_with fail
      refine (l02Drawn_any g (3000 * i) 8 wr S2.out (by omega) (by omega) (by omega)).mono ?_
      rintro e w3 ⟨A3, c3, rs, rfl, ok, own3, s3, g3⟩
      have B3 := Lib.hid (B2.out.grown g3 (by intro e; injection e with e; omega))
      have b3 := Lib.hid (b2.out.grown g3 b2.out.size (fun k e => by injection e; omega))
      have O3 := Lib.hid (own_kept' (i := 0) (own3.mono b2.out.size) B3.out (by decide) (.slice A3 rs.length c3))
      have Ok := Lib.hid ok
      have r0 := B3.out.cell 0
      have rf := B3.out.frozen
      have rl := B3.out.lt
      have x8 : (w3.setCell ⟨w.heap.size, 0, none⟩ (.slice A3 rs.length c3)).cell? ⟨w.heap.size, 0, none⟩ = some (.slice A3 rs.length c3) := by rw [(B3.out.set_ 0 (.slice A3 rs.length c3)).cell 0]; rfl
      have b8 := Lib.hid (b3.out.setCell (p := ⟨w.heap.size, 0, none⟩) (Nat.le_refl _) (.slice A3 rs.length c3))
      clear own3 s3 g3 ok
      go_wp2_with fail
      refine bodyPost_ret (v := .agg #[.slice A3 rs.length c3]) (by simp [results, Try.results5, go_sem, x8]) rfl ?_
      exact ⟨A3, c3, rs, rfl, ⟨Ok.out.wf, Ok.out.pos, Ok.out.gok, O3.out⟩, by have := Ok.out.len; omega, b8.out⟩
theorem p6Pick_any (A : Option Addr) (n c : Nat) (bs : List UInt8) (m k : Int) (w : World) (hn : n ≤ 4096) (hr : Rd w w.heap.size A n 1 byteE bs) (hm : m ≤ k) (hk : 1 ≤ k) :
    Calls Try.prog 6 #[.slice A n c, .int .i64 m] w (fun e w' => ∃ v : Int, e = .returned (.int .i64 v) ∧ 0 ≤ v ∧ v < k ∧ Below w.heap.size w w') := by
  go_enter Try.func6, Try.ntmps6
  go_wp2_with fail
  refine (l00From_any A n c bs w hn hr).mono ?_
  rintro e w1 ⟨g, rfl, hg, s1, hb1⟩
  go_wp2_with fail
  refine (pick_any g 0 m k w1 s1 (by omega) hm hk).mono ?_
  rintro e w2 ⟨v, rfl, v0, v1, s2, g2⟩
  go_wp2_with fail
  go_ret
  exact ⟨v, rfl, v0, v1, hb1.grown g2 hb1.size (fun k e => by injection e with e; omega)⟩
/-- the text of one letter -/
def lt1 (l : Nat) : ByteArray := ⟨#[UInt8.ofNat (97 + l)]⟩
end Go.Proofs.Ytajfjgemfnfakaa


/-
  How often letters occur, and the length of a word: on both sides.
-/
namespace Go.Proofs.Ytajfjgemfnfakaa
open Go.RowKit

def ct4 (u : List Nat) : List Int := (List.range 4).map fun l => cn l u
theorem ct4_len (u : List Nat) : (ct4 u).length = 4 := rfl
theorem ct4_at (u : List Nat) {l : Nat} (h : l < 4) : (ct4 u).getD l 0 = cn l u := by
  unfold ct4
  rw [List.getD_eq_getElem?_getD, List.getElem?_map, List.getElem?_range h]; rfl
theorem lcL_len (rs : List Fac) (i : Nat) : (lcL rs i).length = 4 := rfl
theorem lcL_at (rs : List Fac) (i : Nat) {l : Nat} (h : l < 4) : (lcL rs i).getD l 0 = sumTo (fun j => (usesOf rs).getD j 0 * lcD rs l j) i := by
  unfold lcL
  rw [List.getD_eq_getElem?_getD, List.getElem?_map, List.getElem?_range h]; rfl
theorem lcL_pair {rs : List Fac} {i : Nat} {x : Fac} (hx : rs[i]? = some x) (h0 : x.l.size = 0) : lcL rs (i + 1) = lcL rs i := by
  unfold lcL
  refine List.map_congr_left fun l _ => ?_
  show sumTo _ i + (usesOf rs).getD i 0 * lcD rs l i = _
  unfold lcD
  rw [fac_getD hx, if_pos h0]; simp
theorem lcL_let {rs : List Fac} {i l : Nat} {x : Fac} (hx : rs[i]? = some x) (h0 : x.l.size ≠ 0) (hl : letN x.l = l) (h4 : l < 4) : lcL rs (i + 1) = (lcL rs i).set l ((lcL rs i).getD l 0 + (usesOf rs).getD i 0) := by
  apply List.ext_getElem?
  intro j
  have e : ∀ j, sumTo (fun k => (usesOf rs).getD k 0 * lcD rs j k) (i + 1) = sumTo (fun k => (usesOf rs).getD k 0 * lcD rs j k) i + if j = l then (usesOf rs).getD i 0 else 0 := fun j => by
    show sumTo _ i + (usesOf rs).getD i 0 * lcD rs j i = _
    unfold lcD
    rw [fac_getD hx, if_neg h0, hl]
    by_cases h : j = l
    · rw [if_pos h.symm, if_pos h]; simp
    · rw [if_neg (fun e => h e.symm), if_neg h]; simp
  rw [List.getElem?_set, lcL_at rs i h4]
  by_cases hj : l = j
  · subst hj
    rw [if_pos rfl, if_pos (by rw [lcL_len]; exact h4)]
    unfold lcL
    rw [List.getElem?_map, List.getElem?_range h4]
    simp only [Option.map_some]
    rw [e, if_pos rfl]
  · rw [if_neg hj]
    unfold lcL
    rw [List.getElem?_map, List.getElem?_map]
    by_cases h4j : j < 4
    · rw [List.getElem?_range h4j]
      simp only [Option.map_some]
      rw [e, if_neg (fun q => hj q.symm)]; simp
    · rw [List.getElem?_eq_none (by simp; omega)]; rfl
theorem lc_b {rs : List Fac} {ls : List Int} (hls : gLens rs [] = some ls) (hll : ls.length = rs.length) (h0 : 0 < rs.length) {l : Nat} (h4 : l < 4) : ∀ i, i ≤ rs.length → 0 ≤ (lcL rs i).getD l 0 ∧ (lcL rs i).getD l 0 ≤ 1000000000000000 := by
  intro i hi
  have U := uses_inv hls hll h0
  have nn : ∀ j, 0 ≤ (usesOf rs).getD j 0 * lcD rs l j := fun j => Int.mul_nonneg (U.nn j) (by unfold lcD; split <;> (try split) <;> omega)
  have mono : ∀ d i, sumTo (fun j => (usesOf rs).getD j 0 * lcD rs l j) i ≤ sumTo (fun j => (usesOf rs).getD j 0 * lcD rs l j) (i + d) := by
    intro d
    induction d with
    | zero => intro i; exact Int.le_refl _
    | succ d ih =>
      intro i
      have h1 := ih i
      have h2 : sumTo (fun j => (usesOf rs).getD j 0 * lcD rs l j) (i + (d + 1)) = sumTo (fun j => (usesOf rs).getD j 0 * lcD rs l j) (i + d) + (usesOf rs).getD (i + d) 0 * lcD rs l (i + d) := rfl
      have := nn (i + d)
      omega
  have a0 := mono i 0
  have a1 := mono (rs.length - i) i
  rw [show i + (rs.length - i) = rs.length by omega] at a1
  rw [Nat.zero_add] at a0
  have e0 : sumTo (fun j => (usesOf rs).getD j 0 * lcD rs l j) 0 = 0 := rfl
  have e1 := lcL_at rs rs.length h4
  rw [lcL_all (wf_of hls)] at e1
  have e2 : ((List.range 4).map fun l => cn l (wdN rs)).getD l 0 = cn l (wdN rs) := ct4_at (wdN rs) h4
  rw [e2] at e1
  have := cn_le l (wdN rs)
  have := lens_last_le hls h0 hll
  have := last_word hls
  rw [lcL_at rs i h4]
  omega
/-- four numbers and the code 0 -/
def Ret4 (w : World) (xs : List Int) (e : Ending) (w' : World) : Prop := ∃ b, e = .returned (.tuple #[.slice (some ⟨b, 0, none⟩) 4 4, .int .i64 0]) ∧ w.heap.size ≤ b ∧ Blk w' b 2 (intA xs) ∧ Below w.heap.size w w'
/-- letters being counted -/
structure LcW (w W : World) (A : Option Addr) (n c b5 : Nat) (A2 : Option Addr) (c2 : Nat) (us xs : List Int) : Prop where
  g : Blk W w.heap.size 26 #[.slice A n c]
  u : W.ownsRow w.heap.size 2 1 (.slice A2 n c2) n (us.flatMap intE)
  x : Blk W b5 2 (intA xs)
  e : Below w.heap.size w W
  hu : ∀ k, (Value.slice A2 n c2).ownBlock = some k → k < b5
  h5 : w.heap.size < b5
theorem LcW.next {w W W' : World} {A A2 : Option Addr} {n c b5 c2 : Nat} {us xs : List Int} (h : LcW w W A n c b5 A2 c2 us xs) (hb : Below W.heap.size W W') : LcW w W' A n c b5 A2 c2 us xs := ⟨h.g.next hb, own_next h.u hb, h.x.next hb, h.e.trans (hb.mono h.e.size), h.hu, h.h5⟩
theorem LcW.put {w W : World} {A A2 : Option Addr} {n c b5 c2 : Nat} {us xs : List Int} (h : LcW w W A n c b5 A2 c2 us xs) (l : Nat) (v : Int) : LcW w (W.setCell ⟨b5, l, none⟩ (.int .i64 v)) A n c b5 A2 c2 us (xs.set l v) := by
  have hg := gb_set W b5 l (.int .i64 v)
  have h5 := h.h5
  have hx := h.x.set_ l (.int .i64 v)
  rw [intA_set] at hx
  refine ⟨h.g.grown hg (by intro e; injection e with e; omega), h.u.kept hg ?_, hx, h.e.setCell (by show w.heap.size ≤ b5; omega) _, h.hu, h5⟩
  cases hv : (Value.slice A2 n c2).ownBlock with
  | none => exact .inl rfl
  | some q => exact .inr fun e => by have := h.hu q hv; injection e with e; omega
theorem lengthOf_any (A : Option Addr) (n c : Nat) (rs : List Fac) (w : World) (hr : Rd w w.heap.size A n 3 Fac.cells rs) (hg : (gOk rs).isSome = true) :
    Calls Try.prog 41 #[.agg #[.slice A n c]] w (Ret (.tuple #[.int .i64 ((wdN rs).length : Int), .int .i64 0]) w) := by
  obtain ⟨ls, hls, hlen, hll⟩ := big_lens hg
  have hl := hr.len
  have hn : n ≤ 400 := by omega
  have HR := Lib.hid hr
  have HG := Lib.hid hg
  have HLS := Lib.hid hls
  have HO := Lib.hid (wf_sz (wf_of hls))
  have hlast := last_word hls
  generalize hv : lastI ls = v at *
  have HV := Lib.hid hv
  rw [← hlast]
  clear hr hg hls hlen hll hl hlast hv
  go_enter Try.func41, Try.ntmps41
  go_wp2_with fail
  refine namedC fun w1 H1 => ?_
  have hb1 : Below w.heap.size w w1 := by rw [H1.out]; (repeat first | exact Below.refl _ _ | assumption | refine Below.drew ?_ | refine Below.alloc ?_ (by first | exact Nat.le_refl _ | (simp; done) | omega | (simp; omega)) _ | refine Below.setCell ?_ (by first | exact Nat.le_refl _ | (simp; done) | omega | (simp; omega)) _)
  have BG := Lib.hid (show Blk w1 w.heap.size 26 #[.slice A n c] by rw [H1.out]; exact Blk.new _ _ _)
  clear H1
  refine (l02Ok_any w.heap.size A n c rs w1 BG.out.lt (BG.out.cell 0) (by omega) (HR.out.next hb1) HO.out true HG.out).mono ?_
  rintro e w3 ⟨rfl, hb3⟩
  have b3 := Lib.hid (hb1.trans (hb3.mono hb1.size))
  have BG3 := Lib.hid (BG.out.next hb3)
  clear BG hb1 hb3
  go_wp2_with fail
  refine (l02Length_any w.heap.size A n c rs w3 BG3.out.lt (BG3.out.cell 0) (by omega) (HR.out.next b3.out) HO.out ls HLS.out).mono ?_
  rintro e w4 ⟨rfl, hb4⟩
  rw [HV.out]
  go_wp2_with fail
  go_ret2
  exact ⟨rfl, b3.out.trans (hb4.mono b3.out.size)⟩
theorem f6length_any (A : Option Addr) (n c : Nat) (rs : List Fac) (w : World) (hr : Rd w w.heap.size A n 3 Fac.cells rs) (hg : (gOk rs).isSome = true) :
    Calls Try.prog 15 #[.agg #[.slice A n c]] w (Ret (.int .i64 ((wdN rs).length : Int)) w) := by
  have HR := Lib.hid hr; clear hr
  have HG := Lib.hid hg; clear hg
  generalize hv : ((wdN rs).length : Int) = v at *
  have HV := Lib.hid hv; clear hv
  go_enter Try.func15, Try.ntmps15
  go_wp2_with fail
  refine (lengthOf_any A n c rs _ (HR.out.next ((Below.refl _ _).alloc (Nat.le_refl _) _)) HG.out).mono ?_
  rintro e w1 ⟨rfl, hb1⟩
  rw [HV.out]
  go_wp2_with fail
  go_ret
  exact ⟨rfl, ((Below.refl _ _).alloc (Nat.le_refl _) _).trans (hb1.mono (by simp))⟩
end Go.Proofs.Ytajfjgemfnfakaa


/-
  How a law's statement follows from its walk: the arguments opened to plain data; behind the walk they read as they did.
-/
namespace Go.Proofs.Ytajfjgemfnfakaa
open Go.ChangeShapes Go.WideShapes Go.ChangeAt Go.RowKit Go.Deep

theorem own : ownKnob Try.prog.godebug = none := by kernel_rfl
theorem laidOut : laidOutB Try.prog = true := by kernel_rfl
theorem mapsRowed' : mapsRowed Try.prog = true := by kernel_rfl
theorem heard' : Try.prog.stopsHeard = true := by kernel_rfl
theorem mayEnter' : Try.prog.mayEnter = true := by kernel_rfl
theorem lifts' : (Rows.fnLevelRow.lifted == Try.prog.liftsFinal) = true := by kernel_rfl
theorem make' : (Try.prog.make == some Rows.fnLevelRow.make) = true := by kernel_rfl
theorem plainKeys' : (Rows.fnLevelRow.plainKeys == Try.prog.plainKeys) = true := by kernel_rfl
/-- a row's closed facts, one by one: so that the kernel gives its memory back behind each -/
theorem joined_mk {P : Program} {f : FuncId} {fn : Func} {s : ChangeSpec} {c : OpenClaim} (h1 : c.wf (OpenSpec.ofChange s) = true) (h2 : laidOutB P = true) (h3 : mapsRowed P = true)
    (h4 : (fn.params.all (P.readableRec ·) && namedTie P c.named s.vars && (c.stops == []) && (P.stops == []) && (c.knobs == []) && (P.stopKnobs == [])) = true)
    (h5 : (c.inPlace == P.inPlace f) = true) (h6 : (c.unfollowed == P.unfollowed f) = true) (h7 : (c.recurses == P.recurses f) = true) (h8 : (c.named == P.varsNamed f) = true)
    (h9 : ((c.maps == (fn.params.toList ++ s.plain.varTypes P).any (P.mapsRec ·)) && (c.ifaces == (fn.params.toList ++ s.plain.varTypes P).any (P.ifacesRec ·)) && (c.mapsOut == P.mapsAmong fn.resultTypes.toList) &&
      (c.loops == (fn.params.toList ++ s.plain.varTypes P).any (P.loopsFrom ·)) && (c.wideKeys == (fn.params.toList ++ s.plain.varTypes P ++ fn.resultTypes.toList).any (P.wideKeysFrom ·)) &&
      s.vars.all (P.varReadable ·) && fn.resultTypes.all (fun t => P.readableRec t && decide (t < P.types.size)) && (c.ifacesOut == fn.resultTypes.toList.any (P.ifacesRec ·)) && (c.loopsOut == fn.resultTypes.toList.any (P.loopsFrom ·))) = true)
    (h10 : (c.plainKeys == P.plainKeys) = true) (h11 : c.shortTexts.isNone = true) (h12 : P.stopsHeard = true) (h13 : P.mayEnter = true) (h14 : (c.lifted == P.liftsFinal) = true) (h15 : (P.make == some c.make) = true)
    (h16 : ((c.kinds == (if c.domain.isEmpty then [] else fn.params.toList.map fun t => match P.underlying t with | some (.int k) => some k | _ => none)) && (c.pinned == c.pinnedBy) &&
      (c.veiled == (fn.params.toList ++ s.plain.varTypes P ++ fn.resultTypes.toList).any (P.veiledRec ·)) && c.veiledFits P fn.params.toList (fn.params.toList ++ s.plain.varTypes P ++ fn.resultTypes.toList)) = true) :
    joinedFacts P f fn s c = true := by
  simp only [Bool.and_eq_true] at h4 h9 h16
  simp only [joinedFacts, Bool.and_eq_true]
  simp only [h1, h2, h3, h4, h5, h6, h7, h8, h9, h10, h11, h12, h13, h14, h15, h16, and_self]
  exact ⟨⟨⟨⟨trivial, h16.1.1.1⟩, trivial⟩, trivial⟩, trivial⟩

section
variable {H : Type} {enc : TypeId × Value → H} {P : Program}
/-- the arguments read as they did, where nothing old has turned -/
theorem args_below (hl : laidOutB P = true) {W W' : World} (hb : Below W.heap.size W W') : ∀ {ts : List TypeId} {vs : List Value} {ds : List (DataW H)} {ps : List MemPlace},
    (∀ t ∈ ts, P.readableRec t = true ∧ t < P.types.size) → DataW.TrodAll enc P W 0 (fun _ => true) true ts vs ds ps → (∀ p ∈ ps, p.block < W.heap.size) →
    ∀ sp : Nat → Bool, (∀ p ∈ ps, sp p.block = true) → DataW.TrodAll enc P W' 0 sp true ts vs ds ps
  | [], [], [], _, _, h, _, _, _ => h
  | t :: ts, v :: vs, d :: ds, ps, ht, h, hlt, sp, hsp => by
    obtain ⟨p, q, h1, h2, rfl⟩ := h
    obtain ⟨hr, hrow⟩ := ht t (by simp)
    exact ⟨p, q, WideElems.Trod_stays hl hr hrow h1 (fun x hx => hb.same (hlt x (by simp [hx]))) (fun x hx => hsp x (by simp [hx])),
      args_below hl hb (fun t' h' => ht t' (by simp [h'])) h2 (fun x hx => hlt x (by simp [hx])) sp (fun x hx => hsp x (by simp [hx])), rfl⟩
  | [], _ :: _, _, _, _, h, _, _, _ => by cases h
  | [], [], _ :: _, _, _, h, _, _, _ => by cases h
  | _ :: _, [], _, _, _, h, _, _, _ => by cases h
  | _ :: _, _ :: _, [], _, _, h, _, _, _ => by cases h

/-- a law's last step: it has returned true, and nothing old has turned -/
theorem law_post {f : Func} {s : ChangeSpec} {W W' : World} {args : Array Value} {ds gs : List (DataW H)} {before : List MemPlace} (hl : laidOutB P = true)
    (hW : DataW.Whole enc P f.params.toList s.vars false W args.toList ds gs before) (hv : s.vars = []) (b : TypeId) (hbool : P.underlying b = some .bool) (hrt : f.resultTypes = #[b])
    (hts : ∀ t ∈ f.params.toList, P.readableRec t = true ∧ t < P.types.size)
    (hsp : s.fn H (ds ++ gs) = { results := [.lit (.bool true)], args := ds }) (hb : Below W.heap.size W W') : s.post enc P f false true false false W args (.bool true) W' := by
  have hW0 := hW
  have hlt : ∀ p ∈ before, p.block < W.heap.size := fun p hp => hW.lt p hp
  obtain ⟨p, q, hA, hV, hpq, hz, hn⟩ := hW
  rw [hv] at hV
  obtain ⟨hg, hq⟩ := trodVars_none hV
  subst hg hq
  rw [List.append_nil] at hpq
  subst hpq
  have hargs := args_below hl hb hts hA hlt
  refine ⟨ds, [], before, [], before, [], hW0, ?_, ?_, ?_, World.keptBut_mono (fun p hp => ⟨hp, Or.inr (Or.inl hp)⟩) (hb.frame (· ∈ before)), fun h => by cases h⟩
  · rw [hsp, hrt]
    exact trodAll_mk1 (shut_bool hbool _)
  · rw [hsp]
    exact hargs _ (fun p hp => by simpa using hlt p hp)
  · rw [hsp, hv]
    exact rfl
end

def I64 (x : Int) : Prop := -9223372036854775808 ≤ x ∧ x ≤ 9223372036854775807
def Fac.ok (f : Fac) : Prop := f.l.size ≤ maxLen ∧ I64 f.a ∧ I64 f.b

theorem cell_spot {w : World} {a : Addr} {v : Value} (h : w.cell? a = some v) : a = ⟨a.block, a.off, none⟩ := by
  obtain ⟨b, o, s⟩ := a
  cases s with
  | none => rfl
  | some x =>
    exfalso
    unfold World.cell? at h
    split at h <;> simp at h

section
variable {H : Type} {enc : TypeId × Value → H} {P : Program} {w : World} {base : Nat} {spare : Nat → Bool} {held : Bool}
/-- a list of structs of a string and two numbers, as it reads -/
theorem facs_of_trod {t e : TypeId} {f0 f1 f2 : Field} {fuel : Nat} {cs0 : List Value} {x0 : DataW H × List MemPlace} (ht : P.underlying t = some (.slice e)) (he : P.underlying e = some (.struct #[f0, f1, f2]))
    (hone : oneCellFields P #[f0, f1, f2] = true) (hC : P.cellsOf e = 3) (t0 : P.underlying f0.type = some .string) (t1 : P.underlying f1.type = some (.int .i64)) (t2 : P.underlying f2.type = some (.int .i64))
    (hf : DataW.trod enc P w base spare held fuel t cs0 = some x0) :
    ∃ A n c fs, cs0 = [.slice A n c] ∧ n ≤ maxLen ∧ Rd w w.heap.size A n 3 Fac.cells fs ∧ ∀ f ∈ fs, Fac.ok f := by
  rcases open_slice ht hf with ⟨hcs, hx⟩ | ⟨a, len, cap, m, n, D, Pl, hcs, _, hl, hm, hmm, hx, hi⟩
  · exact ⟨none, 0, 0, [], hcs, by omega, Rd.none_, by simp⟩
  · subst hcs
    have hlm : len ≤ m := by rw [hmm]; split <;> omega
    have key : ∀ i, i < len → ∃ f : Fac, Fac.ok f ∧ w.cell? (a.add (i * 3)) = some (.string f.l) ∧ w.cell? ((a.add (i * 3)).add 1) = some (.int .i64 f.a) ∧ w.cell? ((a.add (i * 3)).add 2) = some (.int .i64 f.b) := by
      intro i hil
      obtain ⟨cs', hc, ht'⟩ := hi i (by omega)
      rw [hC] at hc
      obtain ⟨ys, n', hn', hy, hlen, hyl, hfld⟩ := DataW.trod_struct he ht'
      obtain ⟨_, hcl, hat⟩ := World.cells?_some hc
      obtain ⟨o0, k0⟩ := hone_of hone 0 f0 rfl
      obtain ⟨o1, k1⟩ := hone_of hone 1 f1 rfl
      obtain ⟨o2, k2⟩ := hone_of hone 2 f2 rfl
      rw [hC] at hlen
      match cs', hlen with
      | [x0, x1, x2], _ =>
        have q0 := hfld 0 f0 rfl
        have q1 := hfld 1 f1 rfl
        have q2 := hfld 2 f2 rfl
        match ys, hyl with
        | [y0, y1, y2], _ =>
          simp only [o0, k0, o1, k1, o2, k2] at q0 q1 q2
          obtain ⟨s, e0, _, hs⟩ := DataW.trod_string t0 (x := y0) (by simpa using q0)
          obtain ⟨z1, e1, _, w1⟩ := DataW.trod_int t1 (x := y1) (by simpa using q1)
          obtain ⟨z2, e2, _, w2⟩ := DataW.trod_int t2 (x := y2) (by simpa using q2)
          simp at e0 e1 e2
          subst e0 e1 e2
          refine ⟨⟨s, z1, z2⟩, ⟨hs, ?_, ?_⟩, ?_, ?_, ?_⟩
          · simpa [I64, Lit.wf, IntKind.min, IntKind.max, IntKind.signed, IntKind.bits] using w1
          · simpa [I64, Lit.wf, IntKind.min, IntKind.max, IntKind.signed, IntKind.bits] using w2
          · simpa [Addr.add] using hat 0 (by omega)
          · simpa using hat 1 (by omega)
          · simpa using hat 2 (by omega)
    obtain ⟨F, hF⟩ := choose_lt (α := Fac) (p := fun i f => Fac.ok f ∧ w.cell? (a.add (i * 3)) = some (.string f.l) ∧ w.cell? ((a.add (i * 3)).add 1) = some (.int .i64 f.a) ∧ w.cell? ((a.add (i * 3)).add 2) = some (.int .i64 f.b)) key
    refine ⟨some a, len, cap, (List.range len).map F, rfl, by omega, ⟨by simp, fun hp => ?_⟩, ?_⟩
    · have h0 := (hF 0 hp).2.1
      have ha : a = ⟨a.block, a.off, none⟩ := by
        have : a.add (0 * 3) = a := by simp [Addr.add]
        rw [this] at h0
        exact cell_spot h0
      refine ⟨a.block, a.off, by rw [← ha], ?_, ?_⟩
      · have := World.block_lt_of_cell? w _ h0
        simpa [Addr.add] using this
      · intro k x hx j u hu
        have hk : k < len := by
          have := (List.getElem?_eq_some_iff.1 hx).1
          simpa using this
        obtain rfl : F k = x := by simpa [hk] using hx
        obtain ⟨_, g0, g1, g2⟩ := hF k hk
        rw [ha] at g0 g1 g2
        simp only [Addr.add_lit] at g0 g1 g2
        rcases j with _ | _ | _ | j
        · simp [Fac.cells] at hu; subst hu; simpa using g0
        · simp [Fac.cells] at hu; subst hu; simpa using g1
        · simp [Fac.cells] at hu; subst hu; simpa using g2
        · simp [Fac.cells] at hu
    · intro f hf
      simp only [List.mem_map, List.mem_range] at hf
      obtain ⟨i, hil, rfl⟩ := hf
      exact (hF i hil).1
/-- an argument that is a list of structs of a string and two numbers -/
theorem open_facs {t e : TypeId} {f0 f1 f2 : Field} {r : Reach} {b0 : Nat} {v : Value} {d : DataW H} {p : List MemPlace} (ht : P.underlying t = some (.slice e)) (he : P.underlying e = some (.struct #[f0, f1, f2]))
    (hone : oneCellFields P #[f0, f1, f2] = true) (hC : P.cellsOf e = 3) (t0 : P.underlying f0.type = some .string) (t1 : P.underlying f1.type = some (.int .i64)) (t2 : P.underlying f2.type = some (.int .i64))
    (hv : Value.okWide P w r b0 t v) (h : DataW.Trod enc P w base spare held t v d p) :
    ∃ A n c fs, v = .slice A n c ∧ n ≤ maxLen ∧ Rd w w.heap.size A n 3 Fac.cells fs ∧ ∀ f ∈ fs, Fac.ok f := by
  obtain ⟨a0, len, cap, rfl⟩ := okWide_slice ht hv
  obtain ⟨fuel, hf⟩ := h
  simp only [Value.cells] at hf
  obtain ⟨A, n, c, fs, hcs, h2⟩ := facs_of_trod ht he hone hC t0 t1 t2 hf
  exact ⟨A, n, c, fs, by simpa using hcs, h2⟩
/-- an argument that is a grammar: a struct of one list -/
theorem open_grammar {g e : TypeId} {f f0 f1 f2 : Field} {r : Reach} {b0 : Nat} {v : Value} {d : DataW H} {p : List MemPlace} (hg : P.underlying g = some (.struct #[f])) (hone1 : oneCellFields P #[f] = true) (hC1 : P.cellsOf g = 1)
    (ht : P.underlying f.type = some (.slice e)) (he : P.underlying e = some (.struct #[f0, f1, f2]))
    (hone : oneCellFields P #[f0, f1, f2] = true) (hC : P.cellsOf e = 3) (t0 : P.underlying f0.type = some .string) (t1 : P.underlying f1.type = some (.int .i64)) (t2 : P.underlying f2.type = some (.int .i64))
    (hv : Value.okWide P w r b0 g v) (h : DataW.Trod enc P w base spare held g v d p) :
    ∃ A n c fs, v = .agg #[.slice A n c] ∧ n ≤ maxLen ∧ Rd w w.heap.size A n 3 Fac.cells fs ∧ ∀ f ∈ fs, Fac.ok f := by
  obtain ⟨cs, rfl, hsz⟩ := okWide_struct hg hv
  obtain ⟨l⟩ := cs
  match l, hsz.trans hC1 with
  | [x0], _ =>
    obtain ⟨fuel, hf⟩ := h
    obtain ⟨ys, n', hn', hy, hlen, hyl, hfld⟩ := DataW.trod_struct hg hf
    obtain ⟨o0, k0⟩ := hone_of hone1 0 f rfl
    match ys, hyl with
    | [y0], _ =>
      have q0 := hfld 0 f rfl
      simp only [o0, k0] at q0
      have q1 : DataW.trod enc P w base spare held n' f.type [x0] = some y0 := by simpa [Value.cells] using q0
      obtain ⟨A, n, c, fs, hcs, h2⟩ := facs_of_trod ht he hone hC t0 t1 t2 q1
      obtain rfl : x0 = .slice A n c := by simpa using hcs
      exact ⟨A, n, c, fs, rfl, h2⟩
/-- an argument that is a list of numbers -/
theorem open_nums {t e : TypeId} {k : IntKind} {r : Reach} {b0 : Nat} {v : Value} {d : DataW H} {p : List MemPlace} (ht : P.underlying t = some (.slice e)) (he : P.underlying e = some (.int k)) (hC : P.cellsOf e = 1)
    (hv : Value.okWide P w r b0 t v) (h : DataW.Trod enc P w base spare held t v d p) :
    ∃ A n c zs, v = .slice A n c ∧ n ≤ maxLen ∧ Rd w w.heap.size A n 1 (fun z => [.int k z]) zs ∧ ∀ z ∈ zs, (Lit.int k z).wf = true := by
  obtain ⟨a0, len0, cap0, rfl⟩ := okWide_slice ht hv
  obtain ⟨fuel, hf⟩ := h
  simp only [Value.cells] at hf
  rcases open_ints ht he hC hf with ⟨hcs, hx⟩ | ⟨a, len, cap, zs, hcs, _, hl, hm, hz, hx, hi, hw⟩
  · exact ⟨none, 0, 0, [], by simpa using hcs, by omega, Rd.none_, by simp⟩
  · have hlz : len ≤ zs.length := by rw [hz]; split <;> omega
    refine ⟨some a, len, cap, zs.take len, by simpa using hcs, by omega, ⟨by simp; omega, fun hp => ?_⟩, fun z h2 => hw z (List.mem_of_mem_take h2)⟩
    have h0 := hi 0 (by omega)
    have ha : a = ⟨a.block, a.off, none⟩ := by
      have : a.add 0 = a := by simp [Addr.add]
      rw [this] at h0
      exact cell_spot h0
    refine ⟨a.block, a.off, by rw [← ha], ?_, fun i x hx j u hu => ?_⟩
    · have := World.block_lt_of_cell? w _ h0
      simpa [Addr.add] using this
    · have hil : i < len := by have := (List.getElem?_eq_some_iff.1 hx).1; simp at this; omega
      rw [List.getElem?_take_of_lt hil] at hx
      have g0 := hi i (by omega)
      rw [ha, Addr.add_lit, List.getD_eq_getElem?_getD, hx] at g0
      rcases j with _ | j
      · simp at hu; subst hu; simpa using g0
      · simp at hu
theorem open_bytes {t e : TypeId} {r : Reach} {b0 : Nat} {v : Value} {d : DataW H} {p : List MemPlace} (ht : P.underlying t = some (.slice e)) (he : P.underlying e = some (.int .u8)) (hC : P.cellsOf e = 1)
    (hv : Value.okWide P w r b0 t v) (h : DataW.Trod enc P w base spare held t v d p) :
    ∃ A n c zs, v = .slice A n c ∧ n ≤ maxLen ∧ Rd w w.heap.size A n 1 (fun z => [.int .u8 z]) zs ∧ ∀ z ∈ zs, 0 ≤ z ∧ z < 256 := by
  obtain ⟨A, n, c, zs, h1, h2, h3, h4⟩ := open_nums ht he hC hv h
  refine ⟨A, n, c, zs, h1, h2, h3, fun z hz => ?_⟩
  have := h4 z hz
  simp [Lit.wf, IntKind.min, IntKind.max, IntKind.signed, IntKind.bits] at this
  omega
theorem open_i64s {t e : TypeId} {r : Reach} {b0 : Nat} {v : Value} {d : DataW H} {p : List MemPlace} (ht : P.underlying t = some (.slice e)) (he : P.underlying e = some (.int .i64)) (hC : P.cellsOf e = 1)
    (hv : Value.okWide P w r b0 t v) (h : DataW.Trod enc P w base spare held t v d p) :
    ∃ A n c zs, v = .slice A n c ∧ n ≤ maxLen ∧ Rd w w.heap.size A n 1 (fun z => [.int .i64 z]) zs ∧ ∀ z ∈ zs, I64 z := by
  obtain ⟨A, n, c, zs, h1, h2, h3, h4⟩ := open_nums ht he hC hv h
  refine ⟨A, n, c, zs, h1, h2, h3, fun z hz => ?_⟩
  simpa [I64, Lit.wf, IntKind.min, IntKind.max, IntKind.signed, IntKind.bits] using h4 z hz
theorem open_i64 {t : TypeId} {r : Reach} {b0 : Nat} {v : Value} {d : DataW H} {p : List MemPlace} (ht : P.underlying t = some (.int .i64)) (hv : Value.okWide P w r b0 t v) (h : DataW.Trod enc P w base spare held t v d p) :
    ∃ z, v = .int .i64 z ∧ d = .lit (.int .i64 z) ∧ p = [] ∧ I64 z := by
  obtain ⟨z, h1, h2, h3, h4⟩ := Go.ChangeShapes.open_int ht hv h
  exact ⟨z, h1, h2, h3, by simpa [I64, Lit.wf, IntKind.min, IntKind.max, IntKind.signed, IntKind.bits] using h4⟩
/-- an argument that is a list of texts -/
theorem open_strs {t e : TypeId} {r : Reach} {b0 : Nat} {v : Value} {d : DataW H} {p : List MemPlace} (ht : P.underlying t = some (.slice e)) (he : P.underlying e = some .string) (hC : P.cellsOf e = 1)
    (hv : Value.okWide P w r b0 t v) (h : DataW.Trod enc P w base spare held t v d p) :
    ∃ A n c ss, v = .slice A n c ∧ n ≤ maxLen ∧ Rd w w.heap.size A n 1 (fun s => [.string s]) ss ∧ ∀ s ∈ ss, s.size ≤ maxLen := by
  obtain ⟨a0, len0, cap0, rfl⟩ := okWide_slice ht hv
  obtain ⟨fuel, hf⟩ := h
  simp only [Value.cells] at hf
  rcases open_strings ht he hC hf with ⟨hcs, hx⟩ | ⟨a, len, cap, zs, hcs, _, hl, hm, hz, hx, hi, hw⟩
  · exact ⟨none, 0, 0, [], by simpa using hcs, by omega, Rd.none_, by simp⟩
  · have hlz : len ≤ zs.length := by rw [hz]; split <;> omega
    refine ⟨some a, len, cap, zs.take len, by simpa using hcs, by omega, ⟨by simp; omega, fun hp => ?_⟩, fun z h2 => hw z (List.mem_of_mem_take h2)⟩
    have h0 := hi 0 (by omega)
    have ha : a = ⟨a.block, a.off, none⟩ := by
      have : a.add 0 = a := by simp [Addr.add]
      rw [this] at h0
      exact cell_spot h0
    refine ⟨a.block, a.off, by rw [← ha], ?_, fun i x hx j u hu => ?_⟩
    · have := World.block_lt_of_cell? w _ h0
      simpa [Addr.add] using this
    · have hil : i < len := by have := (List.getElem?_eq_some_iff.1 hx).1; simp at this; omega
      rw [List.getElem?_take_of_lt hil] at hx
      have g0 := hi i (by omega)
      rw [ha, Addr.add_lit, List.getD_eq_getElem?_getD, hx] at g0
      rcases j with _ | j
      · simp at hu; subst hu; simpa using g0
      · simp at hu
end
end Go.Proofs.Ytajfjgemfnfakaa
