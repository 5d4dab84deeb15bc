/-
  Texts of this claim, merged: Rag IdxT Mch FoldL SmM CdM GramV FacM Rule GramL PlainM TrimM MapM CgM.
-/
import Derived.Test.YtmdmgndhapdmgaaGreatP0


/-
  Tables of rows of any length: as they are read, and as a call owns them.
-/
namespace Go.Proofs.YtmdmgndhapdmgaaGreat
open Go.RowKit

theorem cell_lt {w : World} {p : Addr} {v : Value} (h : w.cell? p = some v) : p.block < w.heap.size := by
  rcases Nat.lt_or_ge p.block w.heap.size with hlt | hge
  · exact hlt
  · unfold World.cell? at h
    rw [Array.getElem?_eq_none hge] at h
    cases h
/-- a row's slice -/
structure RowH where
  A : Option Addr
  n : Nat
  c : Nat
  deriving Inhabited
def encR (h : RowH) : List Value := [.slice h.A h.n h.c]
/-- a table that reads as a list of lists -/
structure RdT {α : Type} (w : World) (B : Nat) (A : Option Addr) (n : Nat) (enc : α → List Value) (hs : List RowH) (xss : List (List α)) : Prop where
  hd : Rd w B A n 1 encR hs
  lx : xss.length = n
  r : ∀ (i : Nat) (h : RowH) (x : List α), hs[i]? = some h → xss[i]? = some x → Rd w B h.A h.n 1 enc x
section
variable {α : Type} {w w' : World} {B B' n : Nat} {A : Option Addr} {enc : α → List Value} {hs : List RowH} {xss : List (List α)}
theorem RdT.len (h : RdT w B A n enc hs xss) : xss.length = n := h.lx
theorem RdT.at_ (h : RdT w B A n enc hs xss) {k : Nat} (hk : k < n) : ∃ b o q x, A = some ⟨b, o, none⟩ ∧ b < B ∧ hs[k]? = some q ∧ xss[k]? = some x ∧ w.cell? ⟨b, o + k, none⟩ = some (.slice q.A q.n q.c) ∧ Rd w B q.A q.n 1 enc x := by
  obtain ⟨b, o, hA, hb, q, hq, hc⟩ := h.hd.at_ hk
  have hx : xss[k]? = some (xss[k]'(by rw [h.lx]; exact hk)) := List.getElem?_eq_getElem _
  exact ⟨b, o, q, _, hA, hb, hq, hx, by simpa using hc 0 _ rfl, h.r k q _ hq hx⟩
theorem RdT.below (h : RdT w B A n enc hs xss) (hb : Below B w w') : RdT w' B A n enc hs xss := ⟨h.hd.below hb, h.lx, fun i q x h1 h2 => (h.r i q x h1 h2).below hb⟩
theorem RdT.more (h : RdT w B A n enc hs xss) (hB : B ≤ B') : RdT w B' A n enc hs xss := ⟨h.hd.more hB, h.lx, fun i q x h1 h2 => (h.r i q x h1 h2).more hB⟩
theorem RdT.next (h : RdT w w.heap.size A n enc hs xss) (hb : Below w.heap.size w w') : RdT w' w'.heap.size A n enc hs xss := (h.below hb).more hb.size
end
/-- a table that a call owns: its head is a row of the call's own, its rows are too, and lie apart -/
structure TabR {α : Type} (EH E : TypeId) (enc : α → List Value) (w : World) (base : Nat) (A : Option Addr) (n c : Nat) (hs : List RowH) (xss : List (List α)) : Prop where
  o : w.ownsRow base EH 1 (.slice A n c) n (hs.flatMap encR)
  lg : hs.length = n
  lx : xss.length = n
  r : ∀ (i : Nat) (h : RowH) (x : List α), hs[i]? = some h → xss[i]? = some x → x.length = h.n ∧ w.ownsRow base E 1 (.slice h.A h.n h.c) h.n (x.flatMap enc)
  d : ∀ (i j : Nat) (h h' : RowH) (g : Nat), hs[i]? = some h → hs[j]? = some h' → (Value.slice h.A h.n h.c).ownBlock = some g → (Value.slice h'.A h'.n h'.c).ownBlock = some g → i = j
section
variable {α : Type} {EH E : TypeId} {w w' w1 : World} {base n c : Nat} {A : Option Addr} {enc : α → List Value} {hs : List RowH} {xss : List (List α)}
theorem TabR.nil (w : World) (base : Nat) : TabR (α := α) EH E enc w base none 0 0 [] [] := ⟨World.ownsRow_nil _ _ _ _, rfl, rfl, fun i h x h1 => by simp at h1, fun i j h h' g h1 => by simp at h1⟩
theorem TabR.next (h : TabR EH E enc w base A n c hs xss) (hb : Below w.heap.size w w') : TabR EH E enc w' base A n c hs xss :=
  ⟨own_next h.o hb, h.lg, h.lx, fun i q x h1 h2 => ⟨(h.r i q x h1 h2).1, own_next (h.r i q x h1 h2).2 hb⟩, h.d⟩
theorem TabR.alloc (h : TabR EH E enc w base A n c hs xss) (o : Obj) : TabR EH E enc (w.alloc o) base A n c hs xss := h.next ((Below.refl _ _).alloc (Nat.le_refl _) o)
theorem TabR.mono {base' : Nat} (h : TabR EH E enc w base A n c hs xss) (hb : base' ≤ base) : TabR EH E enc w base' A n c hs xss :=
  ⟨h.o.mono hb, h.lg, h.lx, fun i q x h1 h2 => ⟨(h.r i q x h1 h2).1, (h.r i q x h1 h2).2.mono hb⟩, h.d⟩
/-- what writes a row that the table has no part in -/
theorem TabR.kept {row : Option Nat} (h : TabR EH E enc w base A n c hs xss) (hg : w.grownBy w' row) (h1 : (Value.slice A n c).ownBlock = none ∨ (Value.slice A n c).ownBlock ≠ row)
    (h2 : ∀ (i : Nat) (q : RowH), hs[i]? = some q → (Value.slice q.A q.n q.c).ownBlock = none ∨ (Value.slice q.A q.n q.c).ownBlock ≠ row) : TabR EH E enc w' base A n c hs xss :=
  ⟨h.o.kept hg h1, h.lg, h.lx, fun i q x h3 h4 => ⟨(h.r i q x h3 h4).1, (h.r i q x h3 h4).2.kept hg (h2 i q h3)⟩, h.d⟩
theorem TabR.keptN {b2 e2 s2 n2 : Nat} {v2 : Value} {xs2 : List Value} (h : TabR EH E enc w base A n c hs xss) (ho : w.ownsRow b2 e2 s2 v2 n2 xs2) (hg : w.grownBy w' v2.ownBlock) (ht : EH ≠ e2) (ht2 : E ≠ e2) : TabR EH E enc w' base A n c hs xss :=
  ⟨h.o.kept hg (own_ne h.o ho ht), h.lg, h.lx, fun i q x h3 h4 => ⟨(h.r i q x h3 h4).1, (h.r i q x h3 h4).2.kept hg (own_ne (h.r i q x h3 h4).2 ho ht2)⟩, h.d⟩
theorem TabR.keptB {g : Nat} {t : TypeId} {cs : Array Value} (h : TabR EH E enc w base A n c hs xss) (hB : Blk w g t cs) (hg : w.grownBy w' (some g)) (ht : EH ≠ t) (ht2 : E ≠ t) : TabR EH E enc w' base A n c hs xss :=
  h.kept hg (by
    have := own_blk_ne h.o hB ht
    cases hv : (Value.slice A n c).ownBlock with
    | none => exact .inl rfl
    | some k => exact .inr fun e => this (by rw [hv, e])) (fun i q hq => by
    have hx : xss[i]? = some (xss[i]'(by rw [h.lx, ← h.lg]; exact (List.getElem?_eq_some_iff.1 hq).1)) := List.getElem?_eq_getElem _
    have := own_blk_ne (h.r i q _ hq hx).2 hB ht2
    cases hv : (Value.slice q.A q.n q.c).ownBlock with
    | none => exact .inl rfl
    | some k => exact .inr fun e => this (by rw [hv, e]))
theorem TabR.rd (h : TabR EH E enc w base A n c hs xss) (h1 : ∀ x, (enc x).length = 1) : RdT w w.heap.size A n enc hs xss :=
  ⟨Rd.of_own (fun _ _ => rfl) h.lg h.o, h.lx, fun i q x h2 h3 => Rd.of_own (fun x _ => h1 x) (h.r i q x h2 h3).1 (h.r i q x h2 h3).2⟩
/-- one row more at the end of the table -/
theorem TabR.push {A' : Option Addr} {c' : Nat} {q : RowH} {x : List α} (hE : EH ≠ E) (h : TabR EH E enc w base A n c hs xss) (hq : w.ownsRow base E 1 (.slice q.A q.n q.c) q.n (x.flatMap enc)) (hxl : x.length = q.n)
    (hfar : ∀ (i : Nat) (p : RowH) (g : Nat), hs[i]? = some p → (Value.slice p.A p.n p.c).ownBlock = some g → (Value.slice q.A q.n q.c).ownBlock ≠ some g)
    (ho : w'.ownsRow base EH 1 (.slice A' (n + 1) c') (n + 1) ((hs ++ [q]).flatMap encR)) (hg : w.grownBy w' (Value.slice A n c).ownBlock) : TabR EH E enc w' base A' (n + 1) c' (hs ++ [q]) (xss ++ [x]) := by
  have lg := h.lg
  have lx := h.lx
  have at1 : ∀ (i : Nat) (p : RowH), (hs ++ [q])[i]? = some p → (i < n ∧ hs[i]? = some p) ∨ (i = n ∧ p = q) := fun i p hi => by
    have hl := (List.getElem?_eq_some_iff.1 hi).1
    rw [List.length_append, List.length_singleton, lg] at hl
    by_cases hn : i < n
    · rw [List.getElem?_append_left (by omega)] at hi
      exact .inl ⟨hn, hi⟩
    · obtain rfl : i = n := by omega
      rw [List.getElem?_append_right (by omega), lg, Nat.sub_self] at hi
      injection hi with hi
      exact .inr ⟨rfl, hi.symm⟩
  refine ⟨ho, by rw [List.length_append, List.length_singleton, lg], by rw [List.length_append, List.length_singleton, lx], fun i p y hi hy => ?_, fun i j p p' g hi hj h1 h2 => ?_⟩
  · rcases at1 i p hi with ⟨hn, hp⟩ | ⟨rfl, rfl⟩
    · rw [List.getElem?_append_left (by omega)] at hy
      have := h.r i p y hp hy
      exact ⟨this.1, this.2.kept hg (own_ne this.2 h.o (Ne.symm hE))⟩
    · rw [List.getElem?_append_right (by omega), lx, Nat.sub_self] at hy
      injection hy with hy
      subst hy
      exact ⟨hxl, hq.kept hg (own_ne hq h.o (Ne.symm hE))⟩
  · rcases at1 i p hi with ⟨hn, hp⟩ | ⟨rfl, rfl⟩ <;> rcases at1 j p' hj with ⟨hm, hp'⟩ | ⟨rfl, rfl⟩
    · exact h.d i j p p' g hp hp' h1 h2
    · exact absurd h2 (hfar i p g hp h1)
    · exact absurd h1 (hfar j p' g hp' h2)
    · rfl
/-- a row that was made later lies apart -/
theorem TabR.fresh {q : RowH} (h : TabR EH E enc w base A n c hs xss) {x : List Value} {b0 : Nat} (hq : w1.ownsRow b0 E 1 (.slice q.A q.n q.c) q.n x) (hb : w.heap.size ≤ b0) :
    ∀ (i : Nat) (p : RowH) (g : Nat), hs[i]? = some p → (Value.slice p.A p.n p.c).ownBlock = some g → (Value.slice q.A q.n q.c).ownBlock ≠ some g := fun i p g hp h1 h2 => by
  have hx : xss[i]? = some (xss[i]'(by rw [h.lx, ← h.lg]; exact (List.getElem?_eq_some_iff.1 hp).1)) := List.getElem?_eq_getElem _
  have l1 := ((h.r i p _ hp hx).2.lt g h1).2
  have l2 := (hq.lt g h2).1
  omega
end
theorem own_keptR {w : World} {base g : Nat} {e t : TypeId} {sz n : Nat} {v : Value} {xs : List Value} {cs : Array Value} (h : w.ownsRow base e sz v n xs) (hB : Blk w g t cs) (ht : e ≠ t) (u : Value) {i : Nat} : (w.setCell ⟨g, i, none⟩ u).ownsRow base e sz v n xs := by
  refine h.kept (gb_set w g i u) ?_
  cases hv : v.ownBlock with
  | none => exact .inl rfl
  | some k => exact .inr fun e => own_blk_ne h hB ht (by rw [hv]; exact e.symm)
theorem Blk.four {w : World} {g : Nat} {t : TypeId} {x y z u : Value} (h : Blk w g t #[x, y, z, u]) : w.cell? ⟨g, 0, none⟩ = some x ∧ w.cell? ⟨g, 1, none⟩ = some y ∧ w.cell? ⟨g, 2, none⟩ = some z ∧ w.cell? ⟨g, 3, none⟩ = some u := ⟨h.cell 0, h.cell 1, h.cell 2, h.cell 3⟩
/-- four cells written -/
def set4 (w : World) (g : Nat) (a b c d : Value) : World := (((w.setCell ⟨g, 0, none⟩ a).setCell ⟨g, 1, none⟩ b).setCell ⟨g, 2, none⟩ c).setCell ⟨g, 3, none⟩ d
theorem Blk.set4 {w : World} {g : Nat} {t : TypeId} {x y z u : Value} (h : Blk w g t #[x, y, z, u]) (a b c d : Value) : Blk (set4 w g a b c d) g t #[a, b, c, d] := (((h.set_ 0 a).set_ 1 b).set_ 2 c).set_ 3 d
theorem gb_set4 (w : World) (g : Nat) (a b c d : Value) : w.grownBy (set4 w g a b c d) (some g) := gb_trans (gb_trans (gb_trans (gb_set w g 0 a) (gb_set _ g 1 b)) (gb_set _ g 2 c)) (gb_set _ g 3 d)
section
variable {α : Type} {EH E : TypeId} {w : World} {base B n c : Nat} {A : Option Addr} {enc : α → List Value} {hs : List RowH} {xss : List (List α)}
/-- a cell of a table of the call's own -/
theorem TabR.cell2 (f : α → Value) (he : ∀ v, enc v = [f v]) (h : TabR EH E enc w base A n c hs xss) {i j : Nat} {x : List α} {v : α} (hx : xss[i]? = some x) (hv : x[j]? = some v) :
    ∃ p g cq, A = some ⟨p, 0, none⟩ ∧ p < w.heap.size ∧ hs[i]? = some ⟨some ⟨g, 0, none⟩, x.length, cq⟩ ∧ w.cell? ⟨p, i, none⟩ = some (.slice (some ⟨g, 0, none⟩) x.length cq) ∧ g < w.heap.size ∧ w.cell? ⟨g, j, none⟩ = some (f v) ∧ x.length ≤ cq := by
  have hi : i < n := by rw [← h.lx]; exact (List.getElem?_eq_some_iff.1 hx).1
  have hj := (List.getElem?_eq_some_iff.1 hv).1
  obtain ⟨p, cap, hv', hg, hs'⟩ := h.o.form (by omega)
  injection hv' with hA _ _
  subst hA
  obtain ⟨⟨qA, qn, qc⟩, hq⟩ : ∃ q, hs[i]? = some q := ⟨_, List.getElem?_eq_getElem (by rw [h.lg]; exact hi)⟩
  obtain ⟨hl, ho⟩ := h.r i _ x hq hx
  have hl : x.length = qn := hl
  subst hl
  have ho : w.ownsRow base E 1 (.slice qA x.length qc) x.length (x.flatMap enc) := ho
  obtain ⟨g, cap2, hv2, _, hg2⟩ := ho.form (by omega)
  have hcq : x.length ≤ qc := by
    rcases ho.2 with ⟨h, h0⟩ | ⟨g', cap', cur', h, _, _, h3, _⟩
    · omega
    · injection h with _ _ h; omega
  obtain rfl : qA = some ⟨g, 0, none⟩ := by injection hv2
  refine ⟨p, g, qc, rfl, hs', hq, ?_, hg2, ?_, hcq⟩
  · rw [h.o.cellAt i (by omega)]
    have := flat_at (enc := encR) (sz := 1) hs (fun _ _ => rfl) i _ hq 0 (by omega)
    rw [Nat.mul_one, Nat.add_zero] at this
    rw [this]; rfl
  · rw [ho.cellAt j (by omega)]
    have := flat_at (enc := enc) (sz := 1) x (fun _ _ => by rw [he]; rfl) j _ hv 0 (by omega)
    rw [Nat.mul_one, Nat.add_zero] at this
    rw [this, he]; rfl
/-- a cell of a table that is read -/
theorem RdT.cell2 (f : α → Value) (he : ∀ v, enc v = [f v]) (h : RdT w B A n enc hs xss) {i j : Nat} {x : List α} {v : α} (hx : xss[i]? = some x) (hv : x[j]? = some v) :
    ∃ p o g go_ cq, A = some ⟨p, o, none⟩ ∧ p < B ∧ w.cell? ⟨p, o + i, none⟩ = some (.slice (some ⟨g, go_, none⟩) x.length cq) ∧ g < B ∧ w.cell? ⟨g, go_ + j, none⟩ = some (f v) := by
  have hi : i < n := by rw [← h.lx]; exact (List.getElem?_eq_some_iff.1 hx).1
  have hj := (List.getElem?_eq_some_iff.1 hv).1
  obtain ⟨p, o, ⟨qA, qn, qc⟩, x', hA, hB, hq, hx', hc, hr⟩ := h.at_ hi
  obtain rfl : x = x' := Option.some.inj (hx.symm.trans hx')
  have hl : x.length = qn := hr.len
  subst hl
  have hr : Rd w B qA x.length 1 enc x := hr
  obtain ⟨g, go_, hqA, hgB, y, hy, hcy⟩ := hr.at_ hj
  obtain rfl : v = y := Option.some.inj (hv.symm.trans hy)
  have hqA : qA = some ⟨g, go_, none⟩ := hqA
  subst hqA
  refine ⟨p, o, g, go_, qc, hA, hB, hc, hgB, ?_⟩
  have := hcy 0 (f v) (by rw [he]; rfl)
  simpa using this
end
end Go.Proofs.YtmdmgndhapdmgaaGreat


/-
  slices.ContainsFunc over rows of numbers and of texts, by the contract of the function that it is handed.
-/
namespace Go.Proofs.YtmdmgndhapdmgaaGreat
open Go.RowKit

set_option maxHeartbeats 1000000 in
theorem indexRowI_any (fp : Nat) (ep : EnterOk fp) (cp : Array Value) (p : List Int → Bool) (A : Option Addr) (n c : Nat) (hs : List RowH) (zs : List (List Int)) (w : World) (hn : n ≤ 1048576) (hr : RdT w w.heap.size A n intE hs zs)
    (hP : ∀ (k : Nat) (q : RowH) (x : List Int), zs[k]? = some x → hs[k]? = some q → ∀ w', Below w.heap.size w w' → Rd w' w'.heap.size q.A q.n 1 intE x → Calls Tryz.prog fp (#[.slice q.A q.n q.c] ++ cp) w' (Ret (.bool (p x)) w')) :
    Calls Tryz.prog 94 #[.slice A n c, .func (.func fp) #[] cp] w (Ret (.int .i64 (findI p zs 0)) w) := by
  have hl := Lib.hid hr.len
  have HP := Lib.hid hP; clear hP
  have HR := Lib.hid hr; clear hr
  unfold EnterOk at ep
  go_enter Tryz.func94, Tryz.ntmps94
  go_wp2_with fail
  go_loopw [8] (fun i_ w' => ∃ k : Nat, i_ = .int .i64 k ∧ k ≤ n ∧ Below w.heap.size w w' ∧ Hid (findI p (zs.drop k) k = findI p zs 0)) (fun i_ _ => n - (intOf i_).toNat)
  case atStart => exact ⟨0, rfl, by omega, Below.refl _ _, Lib.hid rfl⟩
  case round =>
    obtain ⟨k, rfl, hk, hb, H⟩ := hrel
    by_cases hlt : k < n
    · obtain ⟨b, o, q, x, rfl, hB, gq, gx, c0, rx⟩ := (HR.out.next hb).at_ hlt
      have H' := Lib.hid (show (if p x = true then (k : Int) else findI p (zs.drop (k + 1)) (k + 1)) = findI p zs 0 by rw [← H.out, drop_cons gx]; rfl)
      have hc := HP.out k q x gx gq wr hb rx
      clear gx gq H rx
      rcases hp : p x with _ | _
      all_goals
        rw [hp] at hc
        have Hp := Lib.hid hp; clear hp
        have Hc := Lib.hid hc; clear hc
        go_wp2_with fail
        refine Hc.out.mono ?_
        rintro e w1 ⟨rfl, hb1⟩
        go_wp2_with fail
        first
          | (go_ret
             exact ⟨ret_int (by rw [← H'.out, Hp.out]; rfl), hb.trans (hb1.mono hb.size)⟩)
          | (go_roundw
             case rel => exact ⟨k + 1, by go_num, by omega, hb.trans (hb1.mono hb.size), Lib.hid (by rw [← H'.out, Hp.out]; rfl)⟩
             case measure => simp [intOf]; omega)
    · go_wp2_with fail
      go_ret
      exact ⟨ret_int (by rw [← H.out, List.drop_of_length_le (by rw [hl.out]; omega)]; rfl), hb⟩
theorem containsRowI_any (fp : Nat) (ep : EnterOk fp) (cp : Array Value) (p : List Int → Bool) (A : Option Addr) (n c : Nat) (hs : List RowH) (zs : List (List Int)) (w : World) (hn : n ≤ 1048576) (hr : RdT w w.heap.size A n intE hs zs)
    (hP : ∀ (k : Nat) (q : RowH) (x : List Int), zs[k]? = some x → hs[k]? = some q → ∀ w', Below w.heap.size w w' → Rd w' w'.heap.size q.A q.n 1 intE x → Calls Tryz.prog fp (#[.slice q.A q.n q.c] ++ cp) w' (Ret (.bool (p x)) w')) :
    Calls Tryz.prog 77 #[.slice A n c, .func (.func fp) #[] cp] w (Ret (.bool (zs.any p)) w) := by
  have e := Lib.hid (findI_any p zs 0 (by omega))
  have Hc := Lib.hid (indexRowI_any fp ep cp p A n c hs zs w hn hr hP)
  clear hP hr
  go_enter Tryz.func77, Tryz.ntmps77
  go_wp2_with fail
  refine Hc.out.mono ?_
  rintro e1 w1 ⟨rfl, hb1⟩
  go_wp2_with fail
  go_ret
  exact ⟨ret_bool e.out, hb1⟩
set_option maxHeartbeats 1000000 in
theorem indexRowS_any (fp : Nat) (ep : EnterOk fp) (cp : Array Value) (p : List ByteArray → Bool) (A : Option Addr) (n c : Nat) (hs : List RowH) (zs : List (List ByteArray)) (w : World) (hn : n ≤ 1048576) (hr : RdT w w.heap.size A n strEM hs zs)
    (hP : ∀ (k : Nat) (q : RowH) (x : List ByteArray), zs[k]? = some x → hs[k]? = some q → ∀ w', Below w.heap.size w w' → Rd w' w'.heap.size q.A q.n 1 strEM x → Calls Tryz.prog fp (#[.slice q.A q.n q.c] ++ cp) w' (Ret (.bool (p x)) w')) :
    Calls Tryz.prog 81 #[.slice A n c, .func (.func fp) #[] cp] w (Ret (.int .i64 (findI p zs 0)) w) := by
  have hl := Lib.hid hr.len
  have HP := Lib.hid hP; clear hP
  have HR := Lib.hid hr; clear hr
  unfold EnterOk at ep
  go_enter Tryz.func81, Tryz.ntmps81
  go_wp2_with fail
  go_loopw [8] (fun i_ w' => ∃ k : Nat, i_ = .int .i64 k ∧ k ≤ n ∧ Below w.heap.size w w' ∧ Hid (findI p (zs.drop k) k = findI p zs 0)) (fun i_ _ => n - (intOf i_).toNat)
  case atStart => exact ⟨0, rfl, by omega, Below.refl _ _, Lib.hid rfl⟩
  case round =>
    obtain ⟨k, rfl, hk, hb, H⟩ := hrel
    by_cases hlt : k < n
    · obtain ⟨b, o, q, x, rfl, hB, gq, gx, c0, rx⟩ := (HR.out.next hb).at_ hlt
      have H' := Lib.hid (show (if p x = true then (k : Int) else findI p (zs.drop (k + 1)) (k + 1)) = findI p zs 0 by rw [← H.out, drop_cons gx]; rfl)
      have hc := HP.out k q x gx gq wr hb rx
      clear gx gq H rx
      rcases hp : p x with _ | _
      all_goals
        rw [hp] at hc
        have Hp := Lib.hid hp; clear hp
        have Hc := Lib.hid hc; clear hc
        go_wp2_with fail
        refine Hc.out.mono ?_
        rintro e w1 ⟨rfl, hb1⟩
        go_wp2_with fail
        first
          | (go_ret
             exact ⟨ret_int (by rw [← H'.out, Hp.out]; rfl), hb.trans (hb1.mono hb.size)⟩)
          | (go_roundw
             case rel => exact ⟨k + 1, by go_num, by omega, hb.trans (hb1.mono hb.size), Lib.hid (by rw [← H'.out, Hp.out]; rfl)⟩
             case measure => simp [intOf]; omega)
    · go_wp2_with fail
      go_ret
      exact ⟨ret_int (by rw [← H.out, List.drop_of_length_le (by rw [hl.out]; omega)]; rfl), hb⟩
theorem containsRowS_any (fp : Nat) (ep : EnterOk fp) (cp : Array Value) (p : List ByteArray → Bool) (A : Option Addr) (n c : Nat) (hs : List RowH) (zs : List (List ByteArray)) (w : World) (hn : n ≤ 1048576) (hr : RdT w w.heap.size A n strEM hs zs)
    (hP : ∀ (k : Nat) (q : RowH) (x : List ByteArray), zs[k]? = some x → hs[k]? = some q → ∀ w', Below w.heap.size w w' → Rd w' w'.heap.size q.A q.n 1 strEM x → Calls Tryz.prog fp (#[.slice q.A q.n q.c] ++ cp) w' (Ret (.bool (p x)) w')) :
    Calls Tryz.prog 47 #[.slice A n c, .func (.func fp) #[] cp] w (Ret (.bool (zs.any p)) w) := by
  have e := Lib.hid (findI_any p zs 0 (by omega))
  have Hc := Lib.hid (indexRowS_any fp ep cp p A n c hs zs w hn hr hP)
  clear hP hr
  go_enter Tryz.func47, Tryz.ntmps47
  go_wp2_with fail
  refine Hc.out.mono ?_
  rintro e1 w1 ⟨rfl, hb1⟩
  go_wp2_with fail
  go_ret
  exact ⟨ret_bool e.out, hb1⟩
end Go.Proofs.YtmdmgndhapdmgaaGreat


/-
  Whether states, a start and a table are those of a machine, on both sides.
-/
namespace Go.Proofs.YtmdmgndhapdmgaaGreat
open Go.RowKit

/-- the last state -/
def w1 (S : Int) : Int := IntKind.i64.wrap (S - 1)
def rowB (hi : Int) (r : List Int) : Bool := decide (r.length = 4) && r.all fun z => inB z 0 hi
def mchB (S q : Int) (nx : List (List Int)) : Bool := inB S 1 24 && inB q 0 (w1 S) && decide ((nx.length : Int) = S) && nx.all (rowB (w1 S))
theorem not_any {α : Type} (p : α → Bool) (xs : List α) : (!(xs.any fun x => !p x)) = xs.all p := by
  induction xs with
  | nil => rfl
  | cons x r ih => simp [← ih]
theorem any_not {α : Type} (p : α → Bool) (xs : List α) : (xs.any fun x => !p x) = !xs.all p := by rw [← not_any, Bool.not_not]
theorem mch_ok {S q : Int} {nx : List (List Int)} (h : mchB S q nx = true) : 1 ≤ S ∧ S ≤ 24 ∧ 0 ≤ q ∧ q < S ∧ (nx.length : Int) = S ∧ ∀ r ∈ nx, r.length = 4 ∧ ∀ z ∈ r, 0 ≤ z ∧ z < S := by
  simp only [mchB, Bool.and_eq_true, inB, decide_eq_true_eq, List.all_eq_true] at h
  obtain ⟨⟨⟨⟨s1, s2⟩, q1, q2⟩, hl⟩, hr⟩ := h
  have e : w1 S = S - 1 := IntWalk.i64_in _ (by omega)
  rw [e] at q2
  refine ⟨s1, s2, q1, by omega, hl, fun r hm => ?_⟩
  have := hr r hm
  simp only [rowB, Bool.and_eq_true, decide_eq_true_eq, List.all_eq_true, inB, e] at this
  exact ⟨this.1, fun z hz => by have := this.2 z hz; omega⟩
theorem isM11_any (g : Nat) (S z : Int) (w : World) (hg : w.cell? ⟨g, 0, none⟩ = some (.int .i64 S)) :
    Calls Tryz.prog 80 #[.int .i64 z, .pointer (some ⟨g, 0, none⟩)] w (Ret (.bool (!inB z 0 (w1 S))) w) := by
  have hc := Lib.hid (fun W => within_any z 0 (w1 S) (inB z 0 (w1 S)) W rfl)
  have ew : IntKind.i64.wrap (S - 1) = w1 S := rfl
  generalize inB z 0 (w1 S) = b at *
  generalize w1 S = S1 at *
  have gl := cell_lt hg
  go_enter Tryz.func80, Tryz.ntmps80
  go_wp2_with fail
  refine (hc.out _).mono ?_
  rintro e w1 ⟨rfl, hb1⟩
  go_wp2_with fail
  go_ret
  exact ⟨rfl, hb1⟩
set_option maxRecDepth 100000 in
theorem isM1_any (g : Nat) (S : Int) (A : Option Addr) (n c : Nat) (r : List Int) (w : World) (hn : n ≤ 1048576) (hg : w.cell? ⟨g, 0, none⟩ = some (.int .i64 S)) (hr : Rd w w.heap.size A n 1 intE r) :
    Calls Tryz.prog 78 #[.slice A n c, .pointer (some ⟨g, 0, none⟩)] w (Ret (.bool (!rowB (w1 S) r)) w) := by
  have hl := hr.len
  have gl := cell_lt hg
  by_cases h : n = 4
  · subst h
    have e := Lib.hid (show (!rowB (w1 S) r) = (r.any fun z => !inB z 0 (w1 S)) by rw [any_not]; unfold rowB; rw [hl]; simp)
    have HC := Lib.hid (containsInt_any 80 (enterOk Tryz.func80 (by kernel_rfl) (by kernel_rfl)) #[.pointer (some ⟨g, 0, none⟩)] (fun z => !inB z 0 (w1 S)) A 4 c r w hn hr (fun k x _ w' hb => isM11_any g S x w' ((hb.cell (p := ⟨g, 0, none⟩) gl).trans hg)))
    rw [e.out]
    clear hl hr
    generalize (r.any fun z => !inB z 0 (w1 S)) = b at *
    go_enter Tryz.func78, Tryz.ntmps78
    go_wp2_with fail
    refine HC.out.mono ?_
    rintro e w1 ⟨rfl, hb1⟩
    go_wp2_with fail
    go_ret
    exact ⟨rfl, hb1⟩
  · have e := Lib.hid (show (!rowB (w1 S) r) = true by unfold rowB; rw [hl]; simp [h])
    have e0 : ¬ (n : Int) = 4 := by omega
    rw [e.out]
    clear hl hr h
    go_enter Tryz.func78, Tryz.ntmps78
    go_wp2_with fail
    go_ret
    exact ⟨rfl, Below.refl _ _⟩
set_option maxHeartbeats 1000000 in
set_option maxRecDepth 100000 in
theorem isMachine_any (S q : Int) (A : Option Addr) (n c : Nat) (hs : List RowH) (nx : List (List Int)) (w : World) (hn : n ≤ 1048576) (hr : RdT w w.heap.size A n intE hs nx) (hsz : ∀ r ∈ nx, r.length ≤ 1048576) (b : Bool) (hb : mchB S q nx = b) :
    Calls Tryz.prog 46 #[.int .i64 S, .int .i64 q, .slice A n c] w (Ret (.bool b) w) := by
  subst hb
  have hl := hr.len
  have HR := Lib.hid hr; clear hr
  have ew : IntKind.i64.wrap (S - 1) = w1 S := rfl
  have HC := Lib.hid (fun (g : Nat) (W : World) (hb : Below w.heap.size w W) (hg : W.cell? ⟨g, 0, none⟩ = some (.int .i64 S)) =>
    containsRowI_any 78 (enterOk Tryz.func78 (by kernel_rfl) (by kernel_rfl)) #[.pointer (some ⟨g, 0, none⟩)] (fun r => !rowB (w1 S) r) A n c hs nx W hn (HR.out.next hb)
      (fun k h x hx _ w' hb' hr' => isM1_any g S h.A h.n h.c x w' (by rw [← hr'.len]; exact hsz x (List.mem_of_getElem? hx)) ((hb'.cell (p := ⟨g, 0, none⟩) (cell_lt hg)).trans hg) hr'))
  rw [any_not] at HC
  have Hm := Lib.hid (show mchB S q nx = (inB S 1 24 && inB q 0 (w1 S) && decide ((nx.length : Int) = S) && nx.all (rowB (w1 S))) from rfl)
  generalize mchB S q nx = M at *
  generalize nx.all (rowB (w1 S)) = b4 at *
  have W1 := Lib.hid (fun W => within_any S 1 24 (inB S 1 24) W rfl)
  have W2 := Lib.hid (fun W => within_any q 0 (w1 S) (inB q 0 (w1 S)) W rfl)
  generalize inB S 1 24 = b1 at *
  generalize inB q 0 (w1 S) = b2 at *
  generalize w1 S = S1 at *
  rcases b1 with _ | _
  · go_enter Tryz.func46, Tryz.ntmps46
    go_wp2_with fail
    refine (W1.out _).mono ?_
    rintro e w2 ⟨rfl, hb2⟩
    go_wp2_with fail
    go_ret
    exact ⟨ret_bool (by rw [Hm.out]; rfl), (show Below w.heap.size w _ from by (repeat first | exact Below.refl _ _ | assumption | refine Below.drew ?_ | refine Below.alloc ?_ (by first | exact Nat.le_refl _ | (simp; done) | omega | (simp; omega)) _ | refine Below.setCell ?_ (by first | exact Nat.le_refl _ | (simp; done) | omega | (simp; omega)) _)).trans (hb2.mono (by simp))⟩
  rcases b2 with _ | _
  · go_enter Tryz.func46, Tryz.ntmps46
    go_wp2_with fail
    refine (W1.out _).mono ?_
    rintro e w2 ⟨rfl, hb2⟩
    have B2 := Lib.hid ((Blk.new w 2 #[.int .i64 S]).next hb2)
    have c0 := B2.out.cell 0
    have cl := B2.out.lt
    go_wp2_with fail
    refine (W2.out _).mono ?_
    rintro e w3 ⟨rfl, hb3⟩
    go_wp2_with fail
    go_ret
    exact ⟨ret_bool (by rw [Hm.out]; rfl), ((show Below w.heap.size w _ from by (repeat first | exact Below.refl _ _ | assumption | refine Below.drew ?_ | refine Below.alloc ?_ (by first | exact Nat.le_refl _ | (simp; done) | omega | (simp; omega)) _ | refine Below.setCell ?_ (by first | exact Nat.le_refl _ | (simp; done) | omega | (simp; omega)) _)).trans (hb2.mono (by simp))).trans (hb3.mono (by have := hb2.size; simp at this; omega))⟩
  have hd : ∃ b3 : Bool, decide ((nx.length : Int) = S) = b3 ∧ ((n : Int) == S) = b3 := by
    rw [hl]
    exact ⟨_, rfl, rfl⟩
  obtain ⟨b3, h3, h3'⟩ := hd
  rw [h3] at Hm
  clear hl h3
  go_enter Tryz.func46, Tryz.ntmps46
  go_wp2_with fail
  refine (W1.out _).mono ?_
  rintro e w2 ⟨rfl, hb2⟩
  have B2 := Lib.hid ((Blk.new w 2 #[.int .i64 S]).next hb2)
  have b2 := Lib.hid ((show Below w.heap.size w (w.alloc (.cells #[.int .i64 S] 2)) from by (repeat first | exact Below.refl _ _ | assumption | refine Below.drew ?_ | refine Below.alloc ?_ (by first | exact Nat.le_refl _ | (simp; done) | omega | (simp; omega)) _ | refine Below.setCell ?_ (by first | exact Nat.le_refl _ | (simp; done) | omega | (simp; omega)) _)).trans (hb2.mono (by simp)))
  have c0 := B2.out.cell 0
  have cl := B2.out.lt
  clear hb2
  go_wp2_with fail
  refine (W2.out _).mono ?_
  rintro e w3 ⟨rfl, hb3⟩
  have B3 := Lib.hid (B2.out.next hb3)
  have b3' := Lib.hid (b2.out.trans (hb3.mono b2.out.size))
  clear hb3 c0 cl B2 b2
  have c0 := B3.out.cell 0
  have cl := B3.out.lt
  have HC3 := Lib.hid (HC.out w.heap.size w3 b3'.out c0)
  rcases b3 with _ | _
  · go_wp2_with fail
    go_ret
    exact ⟨ret_bool (by rw [Hm.out]; rfl), b3'.out⟩
  · go_wp2_with fail
    refine HC3.out.mono ?_
    rintro e w4 ⟨rfl, hb4⟩
    go_wp2_with fail
    go_ret
    exact ⟨ret_bool (by rw [Hm.out]; cases b4 <;> rfl), b3'.out.trans (hb4.mono b3'.out.size)⟩
/-- the rows from one on -/
def nxB (hi : Int) : List (List Int) → Bool := fun l => l.all (rowB hi)
def rwB (hi : Int) : List Int → Bool := fun l => l.all fun z => inB z 0 hi
set_option maxHeartbeats 1000000 in
set_option maxRecDepth 100000 in
theorem l04Next_any (S : Int) (A : Option Addr) (n c : Nat) (hs : List RowH) (nx : List (List Int)) (w : World) (hn : n ≤ 1048576) (hr : RdT w w.heap.size A n intE hs nx) (b : Bool) (hb : (nx.all (rowB (w1 S)) && decide ((nx.length : Int) = S)) = b) :
    Calls Tryz.prog 65 #[.int .i64 S, .slice A n c] w (Ret (.bool b) w) := by
  have hl := hr.len
  have HR := Lib.hid hr; clear hr
  have ew : IntKind.i64.wrap (S - 1) = w1 S := rfl
  have Hb := Lib.hid (show (nxB (w1 S) nx && decide ((n : Int) = S)) = b by rw [← hl]; exact hb)
  clear hb
  generalize w1 S = S1 at *
  have HI := Lib.hid (fun z W => specIn_any z 0 S1 (inB z 0 S1) W rfl)
  go_enter Tryz.func65, Tryz.ntmps65
  go_wp2_with fail
  go_loopw [5] (fun i_ w' => ∃ k : Nat, i_ = .int .i64 k ∧ k ≤ n ∧ Hid (Below w.heap.size w w') ∧ Hid ((nxB S1 (nx.drop k) && decide ((n : Int) = S)) = b)) (fun i_ _ => n - (intOf i_).toNat)
  case atStart => exact ⟨0, rfl, by omega, Lib.hid (Below.refl _ _), Hb⟩
  case round =>
    obtain ⟨k, rfl, hk, hb, H⟩ := hrel
    by_cases hlt : k < n
    · obtain ⟨p, o, q, x, rfl, hB, gq, gx, c0, rx⟩ := (HR.out.next hb.out).at_ hlt
      have hx4 := rx.len
      have H' := Lib.hid (show ((rowB S1 x && nxB S1 (nx.drop (k + 1))) && decide ((n : Int) = S)) = b by rw [← H.out, drop_cons gx]; rfl)
      have RX := Lib.hid rx
      have i0 : (0 : Int) ≤ (k : Int) := by omega
      have i1 : (k : Int) < (n : Int) := by omega
      clear gx gq H rx
      obtain ⟨qA, qn, qc⟩ := q
      have hx4 : x.length = qn := hx4
      have RX := Lib.hid (show Rd wr wr.heap.size qA qn 1 intE x from RX.out)
      by_cases h4 : qn = 4
      · subst h4
        have H2 := Lib.hid (show ((rwB S1 x && nxB S1 (nx.drop (k + 1))) && decide ((n : Int) = S)) = b by
          rw [← H'.out]; unfold rowB; rw [hx4]; rfl)
        clear H'
        go_wp2_with fail
        go_loopw [6] (fun i_ w' => ∃ j : Nat, i_ = .int .i64 j ∧ j ≤ 4 ∧ Hid (Below wr.heap.size wr w') ∧ Hid (((rwB S1 (x.drop j) && nxB S1 (nx.drop (k + 1))) && decide ((n : Int) = S)) = b)) (fun i_ _ => 4 - (intOf i_).toNat)
        case atStart => exact ⟨0, rfl, by omega, Lib.hid (Below.refl _ _), H2⟩
        case round =>
          obtain ⟨j, rfl, hj, hb2, H3⟩ := hrel
          by_cases hlt2 : j < 4
          · rename_i wr2
            obtain ⟨p2, o2, z, rfl, hB2, gz, c1⟩ := (show Rd _ _ (qA) 4 1 (fun s => [.int .i64 s]) x from RX.out.next hb2.out).int hlt2
            have c0' := (hb2.out.cell (p := ⟨p, o + k, none⟩) hB).trans c0
            have hB' : p < _ := Nat.lt_of_lt_of_le hB hb2.out.size
            have H4 := Lib.hid (show (((inB z 0 S1 && rwB S1 (x.drop (j + 1))) && nxB S1 (nx.drop (k + 1))) && decide ((n : Int) = S)) = b by rw [← H3.out, drop_cons gz]; rfl)
            have HIz := Lib.hid (HI.out z)
            have j0 : (0 : Int) ≤ (j : Int) := by omega
            have j1 : (j : Int) < 4 := by omega
            generalize inB z 0 S1 = bz at *
            clear gz H3
            rcases bz with _ | _
            · go_wp2_with fail
              refine (HIz.out _).mono ?_
              rintro e w2 ⟨rfl, hb3⟩
              go_wp2_with fail
              go_ret
              exact ⟨ret_bool (by rw [← H4.out]; rfl), hb.out.trans ((hb2.out.trans (hb3.mono hb2.out.size)).mono hb.out.size)⟩
            · go_wp2_with fail
              refine (HIz.out _).mono ?_
              rintro e w2 ⟨rfl, hb3⟩
              go_wp2_with fail
              go_roundw
              case rel => exact ⟨j + 1, by go_num, by omega, Lib.hid (hb2.out.trans (hb3.mono hb2.out.size)), Lib.hid (by rw [← H4.out]; rfl)⟩
              case measure => simp [intOf]; omega
          · have ht : x.drop j = [] := List.drop_of_length_le (by omega)
            have H4 := Lib.hid (show (nxB S1 (nx.drop (k + 1)) && decide ((n : Int) = S)) = b by rw [← H3.out, ht]; rfl)
            have j1 : ¬ (j : Int) < 4 := by omega
            go_wp2_with fail
            go_roundw
            case rel => exact ⟨k + 1, by go_num, by omega, Lib.hid (hb.out.trans (hb2.out.mono hb.out.size)), H4⟩
            case measure => simp [intOf]; omega
      · have e0 : ¬ (qn : Int) = 4 := by omega
        have e1 : ((qn : Int) == 4) = false := by simp; omega
        have hf : rowB S1 x = false := by unfold rowB; rw [hx4]; simp [h4]
        have H4 := Lib.hid (show b = false by rw [← H'.out, hf]; rfl)
        go_wp2_with fail
        go_ret
        exact ⟨ret_bool H4.out.symm, hb.out⟩
    · have ht : nx.drop k = [] := List.drop_of_length_le (by omega)
      have H4 := Lib.hid (show decide ((n : Int) = S) = b by rw [← H.out, ht]; rfl)
      have i1 : ¬ (k : Int) < (n : Int) := by omega
      go_wp2_with fail
      go_ret
      exact ⟨ret_bool (by rw [← H4.out]; first | rfl | simp [Int.beq_eq_decide_eq]), hb.out⟩
end Go.Proofs.YtmdmgndhapdmgaaGreat


/-
  What is made of a grammar, rule by rule: laws by the rule's number; the lengths.
-/
namespace Go.Proofs.YtmdmgndhapdmgaaGreat

section
variable {α : Type} (d : α) (F : Nat → α) (G : α → α → Fac → α) {rs : List Fac}
/-- what is made of all rules -/
abbrev full (rs : List Fac) : List α := foldG d F G rs []
theorem full_len : (full d F G rs).length = rs.length := by unfold full; rw [foldG_len]; simp
theorem outs_full {k i : Nat} (hi : i < k) (hk : k ≤ rs.length) : (outs d F G rs k).getD i d = (full d F G rs).getD i d := by
  rw [List.getD_eq_getElem?_getD, List.getD_eq_getElem?_getD, outs_at d F G rs k i hi hk]
theorem full_at {k : Nat} {r : Fac} (h : rs[k]? = some r) : (full d F G rs).getD k d = fStep d F G (outs d F G rs k) r := by
  have hk : k < rs.length := (List.getElem?_eq_some_iff.1 h).1
  rw [← outs_full d F G (k := k + 1) (by omega) (by omega), outs_step d F G h, List.getD_eq_getElem?_getD, List.getElem?_append_right (by rw [outs_len d F G rs k (by omega)]; omega), outs_len d F G rs k (by omega)]
  simp
theorem full_pair (hwf : WF rs) {k : Nat} {r : Fac} (h : rs[k]? = some r) (h0 : r.l.size = 0) : (full d F G rs).getD k d = G ((full d F G rs).getD r.a.toNat d) ((full d F G rs).getD r.b.toNat d) r := by
  have hk : k < rs.length := (List.getElem?_eq_some_iff.1 h).1
  rcases hwf k r h with ⟨_, ha0, ha1, hb0, hb1⟩ | ⟨c, _, hl, _⟩
  · rw [full_at d F G h, fStep, if_pos h0, outs_full d F G (by omega) (by omega), outs_full d F G (by omega) (by omega)]
  · rw [hl] at h0; exact absurd h0 (show ¬ (1 : Nat) = 0 by omega)
theorem full_let {k : Nat} {r : Fac} (h : rs[k]? = some r) (h0 : r.l.size ≠ 0) : (full d F G rs).getD k d = F (letN r.l) := by
  rw [full_at d F G h, fStep, if_neg h0]
/-- what holds of each rule's value -/
theorem full_ind (hwf : WF rs) (P : Nat → α → Prop) (hF : ∀ (k : Nat) (r : Fac), rs[k]? = some r → letT r.l = true → P k (F (letN r.l)))
    (hG : ∀ (k : Nat) (r : Fac) (a b : α), rs[k]? = some r → r.l.size = 0 → 0 ≤ r.a → r.a < k → 0 ≤ r.b → r.b < k → P r.a.toNat a → P r.b.toNat b → P k (G a b r)) : ∀ k, k < rs.length → P k ((full d F G rs).getD k d) := by
  intro k
  induction k using Nat.strongRecOn with
  | ind k ih =>
    intro hk
    have gx : rs[k]? = some (rs[k]'(by omega)) := List.getElem?_eq_getElem _
    rcases hwf k _ gx with ⟨h0, ha0, ha1, hb0, hb1⟩ | ⟨c, hc, hl, _⟩
    · rw [full_pair d F G hwf gx h0]
      exact hG k _ _ _ gx h0 ha0 ha1 hb0 hb1 (ih _ (by omega) (by omega)) (ih _ (by omega) (by omega))
    · have h0 : (rs[k]'(by omega)).l.size ≠ 0 := by rw [hl]; show (1 : Nat) ≠ 0; omega
      rw [full_let d F G gx h0]
      exact hF k _ gx (by rw [hl]; exact hc)
end

/-- lengths as what is made of a grammar -/
def lenF (_ : Nat) : Int := 1
def lenG (a b : Int) (_ : Fac) : Int := a + b
theorem gStep_fold {out : List Int} {r : Fac} {n : Int} (h : gStep out r = some n) : n = fStep 0 lenF lenG out r := by
  unfold gStep at h
  unfold fStep
  split at h
  · rename_i h0
    rw [if_pos h0]
    split at h
    · obtain rfl := Option.some.inj h; rfl
    · cases h
  · rename_i h0
    rw [if_neg h0]
    split at h
    · obtain rfl := Option.some.inj h; rfl
    · cases h
theorem gLens_fold : ∀ (rs : List Fac) (out ls : List Int), gLens rs out = some ls → ls = foldG 0 lenF lenG rs out
  | [], out, ls, h => by obtain rfl := Option.some.inj h; rfl
  | r :: rs, out, ls, h => by
    unfold gLens at h
    obtain ⟨n, h1, h2⟩ := Option.bind_eq_some_iff.1 h
    rw [gStep_fold h1] at h2
    exact gLens_fold rs _ ls h2
theorem gLens_bound : ∀ (rs : List Fac) (out ls : List Int), gLens rs out = some ls → (∀ x ∈ out, 1 ≤ x ∧ x ≤ 1000000000000000) → ∀ x ∈ ls, 1 ≤ x ∧ x ≤ 1000000000000000
  | [], out, ls, h, hb => by obtain rfl := Option.some.inj h; exact hb
  | r :: rs, out, ls, h, hb => by
    unfold gLens at h
    obtain ⟨n, h1, h2⟩ := Option.bind_eq_some_iff.1 h
    refine gLens_bound rs _ ls h2 (fun x hx => ?_)
    rcases List.mem_append.1 hx with hx | hx
    · exact hb x hx
    · simp only [List.mem_singleton] at hx; subst hx; exact gStep_bound hb h1
theorem lens_bound {rs : List Fac} {ls : List Int} (h : gLens rs [] = some ls) {i : Nat} (hi : i < rs.length) : 1 ≤ ls.getD i 0 ∧ ls.getD i 0 ≤ 1000000000000000 := by
  have hl := gLens_len rs [] ls h
  refine gLens_bound rs [] ls h (by simp) _ ?_
  rw [List.getD_eq_getElem?_getD, List.getElem?_eq_getElem (by simp at hl; omega)]; simp
theorem lens_pair {rs : List Fac} {ls : List Int} (h : gLens rs [] = some ls) {k : Nat} {r : Fac} (hr : rs[k]? = some r) (h0 : r.l.size = 0) : ls.getD k 0 = ls.getD r.a.toNat 0 + ls.getD r.b.toNat 0 := by
  have e := gLens_fold rs [] ls h
  have := full_pair 0 lenF lenG (wf_of h) hr h0
  unfold full at this
  rw [← e] at this
  exact this
theorem lens_let {rs : List Fac} {ls : List Int} (h : gLens rs [] = some ls) {k : Nat} {r : Fac} (hr : rs[k]? = some r) (h0 : r.l.size ≠ 0) : ls.getD k 0 = 1 := by
  have e := gLens_fold rs [] ls h
  have := full_let 0 lenF lenG hr h0
  unfold full at this
  rw [← e] at this
  exact this
end Go.Proofs.YtmdmgndhapdmgaaGreat


/-
  The states to which the words of rules lead. Plain.
-/
namespace Go.Proofs.YtmdmgndhapdmgaaGreat
open Go.RowKit

def mF (nx : List (List Int)) (l : Nat) : List Int := nx.map fun r => r.getD l 0
def mG (a b : List Int) (_ : Fac) : List Int := a.map fun t => b.getD t.toNat 0
abbrev maps (nx : List (List Int)) (rs : List Fac) : List (List Int) := full [] (mF nx) mG rs
/-- a table of a machine -/
structure NxOk (S : Nat) (nx : List (List Int)) : Prop where
  len : nx.length = S
  row : ∀ r ∈ nx, r.length = 4 ∧ ∀ z ∈ r, 0 ≤ z ∧ z < S
theorem nx_ok {S q : Int} {nx : List (List Int)} (h : mchB S q nx = true) : NxOk S.toNat nx ∧ 1 ≤ S ∧ S ≤ 24 ∧ 0 ≤ q ∧ q < S := by
  obtain ⟨s1, s2, q1, q2, hl, hr⟩ := mch_ok h
  exact ⟨⟨by omega, fun r hm => ⟨(hr r hm).1, fun z hz => by have := (hr r hm).2 z hz; omega⟩⟩, s1, s2, q1, q2⟩
/-- a list of states -/
def StL (S : Nat) (v : List Int) : Prop := v.length = S ∧ ∀ z ∈ v, 0 ≤ z ∧ z < S
theorem StL.at_ {S : Nat} {v : List Int} (h : StL S v) {s : Nat} (hs : s < S) : ∃ t : Nat, v[s]? = some (t : Int) ∧ t < S := by
  have hx : v[s]? = some (v[s]'(by rw [h.1]; exact hs)) := List.getElem?_eq_getElem _
  have := h.2 _ (List.getElem_mem (by rw [h.1]; exact hs : s < v.length))
  refine ⟨(v[s]'(by rw [h.1]; exact hs)).toNat, ?_, by omega⟩
  rw [hx]; congr 1; omega
theorem NxOk.at_ {S : Nat} {nx : List (List Int)} (h : NxOk S nx) {s l : Nat} (hs : s < S) (hl : l < 4) : ∃ (r : List Int) (t : Nat), nx[s]? = some r ∧ r.length = 4 ∧ r[l]? = some (t : Int) ∧ t < S := by
  have hx : nx[s]? = some (nx[s]'(by rw [h.len]; exact hs)) := List.getElem?_eq_getElem _
  have hm := h.row _ (List.getElem_mem (by rw [h.len]; exact hs : s < nx.length))
  have hy : (nx[s]'(by rw [h.len]; exact hs))[l]? = some ((nx[s]'(by rw [h.len]; exact hs))[l]'(by omega)) := List.getElem?_eq_getElem _
  have h2 := hm.2 _ (List.getElem_mem (by omega : l < (nx[s]'(by rw [h.len]; exact hs)).length))
  refine ⟨_, ((nx[s]'(by rw [h.len]; exact hs))[l]'(by omega)).toNat, hx, hm.1, ?_, by omega⟩
  rw [hy]; congr 1; omega
theorem mF_ok {S : Nat} {nx : List (List Int)} (h : NxOk S nx) {l : Nat} (hl : l < 4) : StL S (mF nx l) := by
  refine ⟨by unfold mF; rw [List.length_map, h.len], fun z hz => ?_⟩
  obtain ⟨r, hr, rfl⟩ := List.mem_map.1 hz
  obtain ⟨h1, h2⟩ := h.row r hr
  refine h2 _ ?_
  rw [List.getD_eq_getElem?_getD, List.getElem?_eq_getElem (by omega)]
  exact List.getElem_mem _
theorem mG_ok {S : Nat} {a b : List Int} (ha : StL S a) (hb : StL S b) (r : Fac) : StL S (mG a b r) := by
  refine ⟨by unfold mG; rw [List.length_map, ha.1], fun z hz => ?_⟩
  obtain ⟨t, ht, rfl⟩ := List.mem_map.1 hz
  have := ha.2 t ht
  refine hb.2 _ ?_
  rw [List.getD_eq_getElem?_getD, List.getElem?_eq_getElem (by rw [hb.1]; omega)]
  exact List.getElem_mem _
theorem maps_ok {S : Nat} {nx : List (List Int)} {rs : List Fac} (h : NxOk S nx) (hwf : WF rs) : ∀ k, k < rs.length → StL S ((maps nx rs).getD k []) :=
  full_ind [] (mF nx) mG hwf (fun _ v => StL S v) (fun _ _ _ hl => mF_ok h (letN_lt hl)) (fun _ r _ _ _ _ _ _ _ _ ha hb => mG_ok ha hb r)
/-- a state behind a pair of rules -/
theorem mG_at {a b : List Int} {r : Fac} {s : Nat} {t : Nat} {v : Int} (h1 : a[s]? = some (t : Int)) (h2 : b[t]? = some v) : (mG a b r)[s]? = some v := by
  unfold mG
  rw [List.getElem?_map, h1]
  show some (b.getD ((t : Int)).toNat 0) = some v
  rw [Int.toNat_natCast, List.getD_eq_getElem?_getD, h2]; rfl
theorem mF_at {nx : List (List Int)} {l s : Nat} {r : List Int} {t : Int} (h1 : nx[s]? = some r) (h2 : r[l]? = some t) : (mF nx l)[s]? = some t := by
  unfold mF
  rw [List.getElem?_map, h1]
  show some (r.getD l 0) = some t
  rw [List.getD_eq_getElem?_getD, h2]; rfl
theorem take_snoc {α : Type} {l : List α} {s : Nat} {v : α} (h : l[s]? = some v) : l.take (s + 1) = l.take s ++ [v] := by rw [List.take_add_one, h]; rfl
end Go.Proofs.YtmdmgndhapdmgaaGreat


/-
  The lengths of the codes of rules. Plain.
-/
namespace Go.Proofs.YtmdmgndhapdmgaaGreat
open Go.RowKit

def lF (ot : List (List ByteArray)) (l : Nat) : List Int := ot.map fun r => ((r.getD l ⟨#[]⟩).size : Int)
def cG (MP : List (List Int)) (a b : List Int) (r : Fac) : List Int := (List.range a.length).map fun s => a.getD s 0 + b.getD ((MP.getD r.a.toNat []).getD s 0).toNat 0
abbrev lens (ot : List (List ByteArray)) (MP : List (List Int)) (rs : List Fac) : List (List Int) := full [] (lF ot) (cG MP) rs
/-- the words of a coder -/
structure OtOk (S : Nat) (ot : List (List ByteArray)) : Prop where
  len : ot.length = S
  row : ∀ r ∈ ot, r.length = 4 ∧ ∀ t ∈ r, okW t = true ∧ t.size ≤ 6
theorem OtOk.at_ {S : Nat} {ot : List (List ByteArray)} (h : OtOk S ot) {s l : Nat} (hs : s < S) (hl : l < 4) : ∃ (r : List ByteArray) (t : ByteArray), ot[s]? = some r ∧ r.length = 4 ∧ r[l]? = some t ∧ okW t = true ∧ t.size ≤ 6 := by
  have hx : ot[s]? = some (ot[s]'(by rw [h.len]; exact hs)) := List.getElem?_eq_getElem _
  have hm := h.row _ (List.getElem_mem (by rw [h.len]; exact hs : s < ot.length))
  have hy : (ot[s]'(by rw [h.len]; exact hs))[l]? = some ((ot[s]'(by rw [h.len]; exact hs))[l]'(by omega)) := List.getElem?_eq_getElem _
  have h2 := hm.2 _ (List.getElem_mem (by omega : l < (ot[s]'(by rw [h.len]; exact hs)).length))
  exact ⟨_, _, hx, hm.1, hy, h2.1, h2.2⟩
/-- lengths of codes, each at most six times that of the word -/
def LnL (S : Nat) (m : Int) (v : List Int) : Prop := v.length = S ∧ ∀ z ∈ v, 0 ≤ z ∧ z ≤ 6 * m
theorem LnL.at_ {S : Nat} {m : Int} {v : List Int} (h : LnL S m v) {s : Nat} (hs : s < S) : ∃ z : Int, v[s]? = some z ∧ 0 ≤ z ∧ z ≤ 6 * m := by
  have hx : v[s]? = some (v[s]'(by rw [h.1]; exact hs)) := List.getElem?_eq_getElem _
  have := h.2 _ (List.getElem_mem (by rw [h.1]; exact hs : s < v.length))
  exact ⟨_, hx, this.1, this.2⟩
theorem lF_at {ot : List (List ByteArray)} {l s : Nat} {r : List ByteArray} {t : ByteArray} (h1 : ot[s]? = some r) (h2 : r[l]? = some t) : (lF ot l)[s]? = some (t.size : Int) := by
  unfold lF
  rw [List.getElem?_map, h1]
  show some ((r.getD l ⟨#[]⟩).size : Int) = _
  rw [List.getD_eq_getElem?_getD, h2]; rfl
theorem cG_at {MP : List (List Int)} {a b m : List Int} {r : Fac} {s t xa : Nat} {v1 v2 : Int} (ha : r.a = ((xa : Nat) : Int)) (hm : MP[xa]? = some m) (h0 : m[s]? = some (t : Int)) (h1 : a[s]? = some v1) (h2 : b[t]? = some v2) : (cG MP a b r)[s]? = some (v1 + v2) := by
  have hs := (List.getElem?_eq_some_iff.1 h1).1
  unfold cG
  rw [List.getElem?_map, List.getElem?_range hs, ha, Int.toNat_natCast]
  show some (a.getD s 0 + b.getD ((MP.getD xa []).getD s 0).toNat 0) = _
  have e1 : a.getD s 0 = v1 := by rw [List.getD_eq_getElem?_getD, h1]; rfl
  have e2 : MP.getD xa [] = m := by rw [List.getD_eq_getElem?_getD, hm]; rfl
  have e3 : m.getD s 0 = (t : Int) := by rw [List.getD_eq_getElem?_getD, h0]; rfl
  have e4 : b.getD t 0 = v2 := by rw [List.getD_eq_getElem?_getD, h2]; rfl
  rw [e1, e2, e3, Int.toNat_natCast, e4]
theorem lF_ok {S : Nat} {ot : List (List ByteArray)} (h : OtOk S ot) {l : Nat} (hl : l < 4) {m : Int} (hm : 1 ≤ m) : LnL S m (lF ot l) := by
  refine ⟨by unfold lF; rw [List.length_map, h.len], fun z hz => ?_⟩
  obtain ⟨r, hr, rfl⟩ := List.mem_map.1 hz
  obtain ⟨h1, h2⟩ := h.row r hr
  have h3 := (h2 (r.getD l ⟨#[]⟩) (by rw [List.getD_eq_getElem?_getD, List.getElem?_eq_getElem (by omega)]; exact List.getElem_mem _)).2
  omega
theorem cG_ok {S : Nat} {MP : List (List Int)} {a b : List Int} {m1 m2 : Int} {r : Fac} (hm : StL S (MP.getD r.a.toNat [])) (ha : LnL S m1 a) (hb : LnL S m2 b) : LnL S (m1 + m2) (cG MP a b r) := by
  refine ⟨by unfold cG; rw [List.length_map, List.length_range, ha.1], fun z hz => ?_⟩
  unfold cG at hz
  obtain ⟨s, hs, rfl⟩ := List.mem_map.1 hz
  have hs : s < S := by rw [← ha.1]; exact List.mem_range.1 hs
  obtain ⟨v1, e1, p1, q1⟩ := ha.at_ hs
  obtain ⟨t, e0, ht⟩ := hm.at_ hs
  obtain ⟨v2, e2, p2, q2⟩ := hb.at_ ht
  have f1 : a.getD s 0 = v1 := by rw [List.getD_eq_getElem?_getD, e1]; rfl
  have f3 : (MP.getD r.a.toNat []).getD s 0 = (t : Int) := by rw [List.getD_eq_getElem?_getD, e0]; rfl
  have f4 : b.getD t 0 = v2 := by rw [List.getD_eq_getElem?_getD, e2]; rfl
  rw [f1, f3, Int.toNat_natCast, f4]
  omega
theorem lens_ok {S : Nat} {nx : List (List Int)} {ot : List (List ByteArray)} {rs : List Fac} {ls : List Int} (h : NxOk S nx) (ho : OtOk S ot) (hls : gLens rs [] = some ls) : ∀ k, k < rs.length → LnL S (ls.getD k 0) ((lens ot (maps nx rs) rs).getD k []) := by
  have hwf := wf_of hls
  refine full_ind [] (lF ot) (cG (maps nx rs)) hwf (fun k v => LnL S (ls.getD k 0) v) (fun k r hr hl => lF_ok ho (letN_lt hl) ?_) (fun k r a b hr h0 ha0 ha1 hb0 hb1 ha hb => ?_)
  · have hk := (List.getElem?_eq_some_iff.1 hr).1
    have := lens_bound hls hk
    omega
  · have hk := (List.getElem?_eq_some_iff.1 hr).1
    rw [lens_pair hls hr h0]
    exact cG_ok (maps_ok h hwf r.a.toNat (by omega)) ha hb
/-- the length of the code of the word -/
def codN (nx : List (List Int)) (ot : List (List ByteArray)) (q : Nat) (rs : List Fac) : Int := if rs.length = 0 then 0 else ((lens ot (maps nx rs) rs).getD (rs.length - 1) []).getD q 0
theorem codN_in {S : Nat} {nx : List (List Int)} {ot : List (List ByteArray)} {rs : List Fac} {ls : List Int} (h : NxOk S nx) (ho : OtOk S ot) (hls : gLens rs [] = some ls) {q : Nat} (hq : q < S) : 0 ≤ codN nx ot q rs ∧ codN nx ot q rs ≤ 6000000000000000 := by
  unfold codN
  split
  · omega
  · rename_i h0
    obtain ⟨z, e, z0, z1⟩ := (lens_ok h ho hls (rs.length - 1) (by omega)).at_ hq
    have hb := lens_bound hls (i := rs.length - 1) (by omega)
    have : ((lens ot (maps nx rs) rs).getD (rs.length - 1) []).getD q 0 = z := by rw [List.getD_eq_getElem?_getD, e]; rfl
    omega
/-! ### the reference's lengths, told only so far -/
def clp (z : Int) : Int := min 1000000000000001 z
def cGc (MP : List (List Int)) (a b : List Int) (r : Fac) : List Int := (List.range a.length).map fun s => clp (a.getD s 0 + b.getD ((MP.getD r.a.toNat []).getD s 0).toNat 0)
abbrev lensC (ot : List (List ByteArray)) (MP : List (List Int)) (rs : List Fac) : List (List Int) := full [] (lF ot) (cGc MP) rs
theorem cGc_at {MP : List (List Int)} {a b m : List Int} {r : Fac} {s t xa : Nat} {v1 v2 : Int} (ha : r.a = ((xa : Nat) : Int)) (hm : MP[xa]? = some m) (h0 : m[s]? = some (t : Int)) (h1 : a[s]? = some v1) (h2 : b[t]? = some v2) : (cGc MP a b r)[s]? = some (clp (v1 + v2)) := by
  have hs := (List.getElem?_eq_some_iff.1 h1).1
  unfold cGc
  rw [List.getElem?_map, List.getElem?_range hs, ha, Int.toNat_natCast]
  show some (clp (a.getD s 0 + b.getD ((MP.getD xa []).getD s 0).toNat 0)) = _
  have e1 : a.getD s 0 = v1 := by rw [List.getD_eq_getElem?_getD, h1]; rfl
  have e2 : MP.getD xa [] = m := by rw [List.getD_eq_getElem?_getD, hm]; rfl
  have e3 : m.getD s 0 = (t : Int) := by rw [List.getD_eq_getElem?_getD, h0]; rfl
  have e4 : b.getD t 0 = v2 := by rw [List.getD_eq_getElem?_getD, h2]; rfl
  rw [e1, e2, e3, Int.toNat_natCast, e4]
theorem clp_add {a b : Int} (ha : 0 ≤ a) (hb : 0 ≤ b) : clp (clp a + clp b) = clp (a + b) := by unfold clp; omega
theorem lensC_eq {S : Nat} {nx : List (List Int)} {ot : List (List ByteArray)} {rs : List Fac} {ls : List Int} (h : NxOk S nx) (ho : OtOk S ot) (hls : gLens rs [] = some ls) : ∀ k, k < rs.length → (lensC ot (maps nx rs) rs).getD k [] = ((lens ot (maps nx rs) rs).getD k []).map clp := by
  have hwf := wf_of hls
  have hL := lens_ok h ho hls
  have hM := maps_ok h hwf
  intro k
  induction k using Nat.strongRecOn with
  | ind k ih =>
    intro hk
    have gx : rs[k]? = some (rs[k]'hk) := List.getElem?_eq_getElem _
    rcases hwf k _ gx with ⟨h0, ha0, ha1, hb0, hb1⟩ | ⟨c, hc, hl, _⟩
    · rw [full_pair [] (lF ot) (cGc (maps nx rs)) hwf gx h0, full_pair [] (lF ot) (cG (maps nx rs)) hwf gx h0, ih _ (by omega) (by omega), ih _ (by omega) (by omega)]
      have la := hL (rs[k]'hk).a.toNat (by omega)
      have lb := hL (rs[k]'hk).b.toNat (by omega)
      have lm := hM (rs[k]'hk).a.toNat (by omega)
      generalize (lens ot (maps nx rs) rs).getD (rs[k]'hk).a.toNat [] = A at *
      generalize (lens ot (maps nx rs) rs).getD (rs[k]'hk).b.toNat [] = B at *
      unfold cGc cG
      rw [List.length_map, List.map_map]
      refine List.map_congr_left fun s hs => ?_
      have hs : s < S := by rw [← la.1]; exact List.mem_range.1 hs
      obtain ⟨v1, e1, p1, _⟩ := la.at_ hs
      obtain ⟨t, e0, ht⟩ := lm.at_ hs
      obtain ⟨v2, e2, p2, _⟩ := lb.at_ ht
      have f3 : ((maps nx rs).getD (rs[k]'hk).a.toNat []).getD s 0 = (t : Int) := by
        generalize (maps nx rs).getD (rs[k]'hk).a.toNat [] = M at *
        rw [List.getD_eq_getElem?_getD, e0]; rfl
      show clp ((A.map clp).getD s 0 + (B.map clp).getD (((maps nx rs).getD (rs[k]'hk).a.toNat []).getD s 0).toNat 0) = clp (A.getD s 0 + B.getD (((maps nx rs).getD (rs[k]'hk).a.toNat []).getD s 0).toNat 0)
      rw [f3, Int.toNat_natCast]
      have f1 : A.getD s 0 = v1 := by rw [List.getD_eq_getElem?_getD, e1]; rfl
      have f2 : B.getD t 0 = v2 := by rw [List.getD_eq_getElem?_getD, e2]; rfl
      have g1 : (A.map clp).getD s 0 = clp v1 := by rw [List.getD_eq_getElem?_getD, List.getElem?_map, e1]; rfl
      have g2 : (B.map clp).getD t 0 = clp v2 := by rw [List.getD_eq_getElem?_getD, List.getElem?_map, e2]; rfl
      rw [f1, f2, g1, g2]
      exact clp_add p1 p2
    · have h0 : (rs[k]'hk).l.size ≠ 0 := by rw [hl]; show (1 : Nat) ≠ 0; omega
      rw [full_let [] (lF ot) (cGc (maps nx rs)) gx h0, full_let [] (lF ot) (cG (maps nx rs)) gx h0]
      have hlt : letN (rs[k]'hk).l < 4 := letN_lt (by rw [hl]; exact hc)
      have hv := lF_ok ho hlt (Int.le_refl 1)
      generalize lF ot (letN (rs[k]'hk).l) = V at *
      conv => lhs; rw [← List.map_id V]
      refine List.map_congr_left fun z hz => ?_
      have := hv.2 z hz
      show z = clp z
      unfold clp; omega
theorem codN_clp {S : Nat} {nx : List (List Int)} {ot : List (List ByteArray)} {rs : List Fac} {ls : List Int} (h : NxOk S nx) (ho : OtOk S ot) (hls : gLens rs [] = some ls) {q : Nat} (hq : q < S) (h0 : rs.length ≠ 0) :
    ((lensC ot (maps nx rs) rs).getD (rs.length - 1) []).getD q 0 = clp (codN nx ot q rs) := by
  rw [lensC_eq h ho hls _ (by omega)]
  unfold codN
  rw [if_neg h0]
  obtain ⟨z, e, _, _⟩ := (lens_ok h ho hls (rs.length - 1) (by omega)).at_ hq
  generalize (lens ot (maps nx rs) rs).getD (rs.length - 1) [] = V at *
  rw [List.getD_eq_getElem?_getD, List.getD_eq_getElem?_getD, List.getElem?_map, e]; rfl
theorem lensC_ok {S : Nat} {nx : List (List Int)} {ot : List (List ByteArray)} {rs : List Fac} {ls : List Int} (h : NxOk S nx) (ho : OtOk S ot) (hls : gLens rs [] = some ls) : ∀ k, k < rs.length → LnL S 1000000000000001 ((lensC ot (maps nx rs) rs).getD k []) := fun k hk => by
  rw [lensC_eq h ho hls k hk]
  have hl := lens_ok h ho hls k hk
  refine ⟨by rw [List.length_map, hl.1], fun z hz => ?_⟩
  obtain ⟨y, hy, rfl⟩ := List.mem_map.1 hz
  have := hl.2 y hy
  unfold clp; omega
end Go.Proofs.YtmdmgndhapdmgaaGreat


/-
  Is a grammar valid: in the program.
-/
namespace Go.Proofs.YtmdmgndhapdmgaaGreat
open Go.RowKit

section
variable (A : Option Addr) (n c : Nat) (rs : List Fac) (w : World) (hn : n ≤ 100000000) (hr : Rd w w.heap.size A n 3 Fac.cells rs) (hok : ∀ f ∈ rs, f.l.size ≤ maxLen)
include hn hr hok
theorem validG_any (b : Bool) (hb : (gOk rs).isSome = b) : Calls Tryz.prog 31 #[.agg #[.slice A n c]] w (Ret (.bool b) w) := by
  have Hb := Lib.hid hb; clear hb
  go_enter Tryz.func31, Tryz.ntmps31
  go_wp2_with fail
  refine (lengths_any A n c rs _ hn (hr.next ((Below.refl _ _).alloc (Nat.le_refl _) _)) hok).mono ?_
  rintro e w1 ⟨hb1, ⟨ls, A', c', hg, rfl, hown⟩ | ⟨hg, A', n', c', rfl⟩⟩
  · have e1 := Lib.hid (show true = b by rw [← Hb.out, hg]; rfl)
    clear hg
    go_wp2_with fail
    go_ret
    exact ⟨ret_bool e1.out, ((Below.refl _ _).alloc (Nat.le_refl _) _).trans (hb1.mono (by simp))⟩
  · have e1 := Lib.hid (show false = b by rw [← Hb.out, hg]; rfl)
    clear hg
    go_wp2_with fail
    go_ret
    exact ⟨ret_bool e1.out, ((Below.refl _ _).alloc (Nat.le_refl _) _).trans (hb1.mono (by simp))⟩
end
end Go.Proofs.YtmdmgndhapdmgaaGreat


/-
  Sizes of rules and of factors: the plain part of the laws' helpers.
-/
namespace Go.Proofs.YtmdmgndhapdmgaaGreat
open Go.RowKit

theorem eq_fac (f g : Fac) : decide (f = g) = (decide (f.l = g.l) && (decide (f.a = g.a) && decide (f.b = g.b))) := by
  cases f; cases g; simp
theorem fac_len (f : Fac) : f.cells.length = 3 := rfl
end Go.Proofs.YtmdmgndhapdmgaaGreat


/-
  What the laws' helpers on lists of rules do: sizes, copies and equality.
-/
namespace Go.Proofs.YtmdmgndhapdmgaaGreat
open Go.RowKit

theorem neq_rule (f g : Fac) (W : World) : (binOp .neq 72 (.agg #[.string f.l, .int .i64 f.a, .int .i64 f.b]) (.agg #[.string g.l, .int .i64 g.a, .int .i64 g.b])).run Tryz.prog W = .ok (.bool (!decide (f = g))) W := by
  rw [eq_fac]
  simp [go_sem, tl_inj]
  by_cases h1 : f.l = g.l <;> by_cases h2 : f.a = g.a <;> by_cases h3 : f.b = g.b <;> simp [h1, h2, h3]

end Go.Proofs.YtmdmgndhapdmgaaGreat


/-
  Is a grammar valid, how long is its word: the small functions, in the program and in the reference; copies and equality of grammars in the laws.
-/
namespace Go.Proofs.YtmdmgndhapdmgaaGreat
open Go.RowKit

def lastI (l : List Int) : Int := l.getD (l.length - 1) 0
theorem gOk_lens {rs : List Fac} {ls : List Int} (h : gOk rs = some ls) : gLens rs [] = some ls ∧ rs.length ≤ 400 ∧ ls.length = rs.length := by
  unfold gOk at h
  split at h
  · cases h
  · have := gLens_len rs [] ls h
    exact ⟨h, by omega, by simpa using this⟩
section
variable (gb : Nat) (A : Option Addr) (n c : Nat) (rs : List Fac) (w : World) (hg : gb < w.heap.size) (hc : w.cell? ⟨gb, 0, none⟩ = some (.slice A n c)) (hn : n ≤ 100000000) (hr : Rd w w.heap.size A n 3 Fac.cells rs) (hok : ∀ f ∈ rs, f.l.size ≤ maxLen)
include hg hc hn hr hok
set_option maxHeartbeats 400000 in
theorem l02Lengths_any : Calls Tryz.prog 59 #[.pointer (some ⟨gb, 0, none⟩)] w (LenPost rs w) := by
  have hl := Lib.hid hr.len
  by_cases h4 : 400 < n
  · have e := Lib.hid (show gOk rs = none by unfold gOk; rw [hl.out, if_pos h4])
    go_enter Tryz.func59, Tryz.ntmps59
    go_wp2_with fail
    go_ret2
    exact LenPost.no e.out (by (repeat first | exact Below.refl _ _ | assumption | refine Below.drew ?_ | refine Below.alloc ?_ (by first | exact Nat.le_refl _ | (simp; done) | omega | (simp; omega)) _ | refine Below.setCell ?_ (by first | exact Nat.le_refl _ | (simp; done) | omega | (simp; omega)) _))
  · have e := Lib.hid (show gOk rs = gLens rs [] by unfold gOk; rw [hl.out, if_neg h4])
    go_enter Tryz.func59, Tryz.ntmps59
    go_wp2_with fail
    refine (l02Sizes_any gb A n c rs _ hg hc hn hr hok).mono ?_
    rintro e' w1 ⟨hb1, ⟨ls, A', c', hgl, rfl, hown⟩ | ⟨hgl, A', n', c', rfl⟩⟩
    · have Hgl := Lib.hid hgl; clear hgl
      go_wp2_with fail
      go_ret2
      exact ⟨hb1, .inl ⟨ls, A', c', e.out.trans Hgl.out, rfl, hown⟩⟩
    · have Hgl := Lib.hid hgl; clear hgl
      go_wp2_with fail
      go_ret2
      exact LenPost.no (e.out.trans Hgl.out) hb1
theorem l02Ok_any (b : Bool) (hb : (gOk rs).isSome = b) : Calls Tryz.prog 21 #[.pointer (some ⟨gb, 0, none⟩)] w (Ret (.bool b) w) := by
  have Hb := Lib.hid hb; clear hb
  go_enter Tryz.func21, Tryz.ntmps21
  go_wp2_with fail
  refine (l02Lengths_any gb A n c rs _ hg hc hn hr hok).mono ?_
  rintro e w1 ⟨hb1, ⟨ls, A', c', hg, rfl, hown⟩ | ⟨hg, A', n', c', rfl⟩⟩
  · have e1 := Lib.hid (show true = b by rw [← Hb.out, hg]; rfl)
    clear hg
    go_wp2_with fail
    go_ret
    exact ⟨ret_bool e1.out, hb1⟩
  · have e1 := Lib.hid (show false = b by rw [← Hb.out, hg]; rfl)
    clear hg
    go_wp2_with fail
    go_ret
    exact ⟨ret_bool e1.out, hb1⟩
theorem l02Length_any (ls : List Int) (hls : gLens rs [] = some ls) : Calls Tryz.prog 22 #[.pointer (some ⟨gb, 0, none⟩)] w (Ret (.int .i64 (lastI ls)) w) := by
  have Hls := Lib.hid hls; clear hls
  go_enter Tryz.func22, Tryz.ntmps22
  go_wp2_with fail
  refine (l02Sizes_any gb A n c rs _ hg hc hn hr hok).mono ?_
  rintro e w1 ⟨hb1, ⟨ls', A', c', hg, rfl, hown⟩ | ⟨hg, _⟩⟩
  · obtain rfl : ls = ls' := by rw [Hls.out] at hg; exact Option.some.inj hg
    clear hg
    have Own := Lib.hid hown; clear hown
    by_cases h0 : ls.length = 0
    · have e1 := Lib.hid (show lastI ls = 0 by unfold lastI; rw [List.getD_eq_getElem?_getD, List.getElem?_eq_none (by omega)]; rfl)
      go_wp2_with fail
      go_ret
      exact ⟨ret_int e1.out.symm, hb1⟩
    · have h1 : 0 < ls.length := by omega
      have hle : ls.length ≤ 100000000 := by
        have := gLens_len rs [] ls Hls.out
        have := hr.len
        simp at *; omega
      have e1 := Lib.hid (show lastI ls = ls.getD ((ls.length : Int) - 1).toNat 0 by unfold lastI; congr 1; omega)
      obtain ⟨g, rfl, _, hlt, c1⟩ := own_int Own.out rfl ((ls.length : Int) - 1) (by omega) (by omega)
      have h0' : ¬ ((ls.length : Int) = 0) := by omega
      have h0b : ((ls.length : Int) == 0) = false := by simpa using h0'
      have c2 : w1.cell? ⟨g, ls.length - 1, none⟩ = some (.int .i64 (ls.getD ((ls.length : Int) - 1).toNat 0)) := by rw [← c1]; congr 2; omega
      clear h0 c1
      generalize ls.getD ((ls.length : Int) - 1).toNat 0 = z at *
      go_wp2_with fail
      go_ret
      exact ⟨ret_int e1.out.symm, hb1⟩
  · rw [Hls.out] at hg; cases hg
end
theorem last_any (A : Option Addr) (n c : Nat) (ls : List Int) (w : World) (hn : n ≤ 100000000) (hr : Rd w w.heap.size A n 1 intE ls) :
    Calls Tryz.prog 54 #[.slice A n c] w (Ret (.int .i64 (lastI ls)) w) := by
  have hl := Lib.hid hr.len
  by_cases h0 : n = 0
  · subst h0
    have e1 := Lib.hid (show lastI ls = 0 by unfold lastI; rw [List.getD_eq_getElem?_getD, List.getElem?_eq_none (by rw [hl.out]; omega)]; rfl)
    go_enter Tryz.func54, Tryz.ntmps54
    go_wp2_with fail
    go_ret
    exact ⟨ret_int e1.out.symm, Below.refl _ _⟩
  · have h0b : ((n : Int) == 0) = false := by simpa using h0
    obtain ⟨b, o, x, rfl, hB, gx, c1⟩ := (show Rd w w.heap.size A n 1 (fun s => [.int .i64 s]) ls from hr).int (k := n - 1) (by omega)
    have e1 := Lib.hid (show lastI ls = x by unfold lastI; rw [hl.out, List.getD_eq_getElem?_getD, gx]; rfl)
    have h1 : 0 < n := by omega
    clear h0 gx
    go_enter Tryz.func54, Tryz.ntmps54
    go_wp2_with fail
    go_ret
    exact ⟨ret_int e1.out.symm, Below.refl _ _⟩
/-- a grammar in new memory -/
def RetG (w0 : World) (xs : List Fac) (e : Ending) (w' : World) : Prop :=
  ∃ A c, e = .returned (.agg #[.slice A xs.length c]) ∧ w'.ownsRow w0.heap.size 72 3 (.slice A xs.length c) xs.length (xs.flatMap Fac.cells) ∧ Below w0.heap.size w0 w'
end Go.Proofs.YtmdmgndhapdmgaaGreat


/-
  The grammar of a plain word: the plain part.
-/
namespace Go.Proofs.YtmdmgndhapdmgaaGreat

/-- the letters that a word has, in order -/
def ksP (w : List UInt8) : List UInt8 := [97, 98, 99, 100].filter (fun c => decide (c ∈ w))
def ruleC (c : UInt8) : Fac := ⟨⟨#[c]⟩, 0, 0⟩
def lettersP (w : List UInt8) : List Fac := (ksP w).map ruleC
/-- the place of a letter's rule -/
def atP (w : List UInt8) (c : UInt8) : Int := (((ksP w).idxOf c : Nat) : Int)
/-- the rules for the letters from the second on -/
def pairsP (w : List UInt8) : List UInt8 → Int → Nat → List Fac
  | [], _, _ => []
  | c :: cs, before, len => ⟨⟨#[]⟩, before, atP w c⟩ :: pairsP w cs (len : Int) (len + 1)
def plainL (w : List UInt8) : List Fac :=
  match w with
  | [] => []
  | c :: cs => lettersP w ++ pairsP w cs (atP w c) (ksP w).length
theorem pairsP_len (w : List UInt8) : ∀ (cs : List UInt8) (b : Int) (n : Nat), (pairsP w cs b n).length = cs.length
  | [], _, _ => rfl
  | _ :: cs, b, n => by simp [pairsP, pairsP_len w cs]
theorem ksP_len (w : List UInt8) : (ksP w).length ≤ 4 := by
  unfold ksP; exact Nat.le_trans (List.length_filter_le _ _) (by simp)
theorem plainL_len (w : List UInt8) : (plainL w).length ≤ w.length + 4 := by
  unfold plainL
  split
  · simp
  · rename_i c cs
    rw [List.length_append, pairsP_len]
    have := ksP_len (c :: cs)
    simp only [lettersP, List.length_map, List.length_cons]; omega
/-- the place of a rule in a list, or -1 -/
def ixR (f : Fac) : List Fac → Int → Int
  | [], _ => -1
  | x :: r, i => if f = x then i else ixR f r (i + 1)
theorem ixR_idx (f : Fac) : ∀ (xs : List Fac) (i : Int), f ∈ xs → ixR f xs i = i + (xs.idxOf f : Nat)
  | [], _, h => by simp at h
  | x :: r, i, h => by
    unfold ixR
    by_cases hx : f = x
    · subst hx; simp
    · have hx' : (x == f) = false := by simp; exact fun e => hx e.symm
      rw [if_neg hx, ixR_idx f r (i + 1) (by simpa [hx] using h), List.idxOf_cons, hx']
      simp; omega
theorem ruleC_inj {a b : UInt8} : ruleC a = ruleC b ↔ a = b := by simp [ruleC]
theorem idx_map (c : UInt8) : ∀ ks : List UInt8, (ks.map ruleC).idxOf (ruleC c) = ks.idxOf c
  | [] => rfl
  | k :: ks => by
    rw [List.map_cons, List.idxOf_cons, List.idxOf_cons, idx_map c ks]
    by_cases h : k = c
    · simp [h]
    · have h1 : (k == c) = false := by simpa using h
      have h2 : (ruleC k == ruleC c) = false := by simpa [ruleC_inj] using h
      rw [h1, h2]
theorem mem_ks {w : List UInt8} {c : UInt8} (hc : c ∈ w) (hl : letB c = true) : c ∈ ksP w := by
  unfold ksP
  rw [List.mem_filter]
  refine ⟨?_, by simpa using hc⟩
  have h : (97 : Int) ≤ c.toNat ∧ (c.toNat : Int) ≤ 100 := by simpa [letB] using hl
  have h4 : c.toNat = 97 ∨ c.toNat = 98 ∨ c.toNat = 99 ∨ c.toNat = 100 := by omega
  simp only [List.mem_cons, List.not_mem_nil, or_false, ← UInt8.toNat_inj]
  exact h4
theorem atP_ix {w : List UInt8} {c : UInt8} (hc : c ∈ w) (hl : letB c = true) : ixR (ruleC c) (lettersP w) 0 = atP w c := by
  have hm : ruleC c ∈ lettersP w := List.mem_map.2 ⟨c, mem_ks hc hl, rfl⟩
  rw [ixR_idx _ _ _ hm]
  unfold lettersP atP
  rw [idx_map]; simp
theorem atP_lt {w : List UInt8} {c : UInt8} (hc : c ∈ w) (hl : letB c = true) : 0 ≤ atP w c ∧ atP w c < ((ksP w).length : Int) := by
  have := List.idxOf_lt_length_of_mem (mem_ks hc hl)
  unfold atP; omega
end Go.Proofs.YtmdmgndhapdmgaaGreat


/-
  A grammar trimmed: the plain part.
-/
namespace Go.Proofs.YtmdmgndhapdmgaaGreat

/-- a rule with the numbers that stand for its parts -/
def trR (same : List Int) (r : Fac) : Fac := if r.l.size = 0 then ⟨⟨#[]⟩, same.getD r.a.toNat 0, same.getD r.b.toNat 0⟩ else r
/-- the rules, told by the first equal ones; the first equal one of each rule -/
def trK : List Fac → List Fac → List Int → List Fac × List Int
  | [], kept, same => (kept, same)
  | r :: rs, kept, same => trK rs (kept ++ [trR same r]) (same ++ [((kept.idxOf (trR same r) : Nat) : Int)])
/-- which rules the last one is made of -/
def useStep (kept : List Fac) (i : Nat) (u : List Bool) : List Bool := if u.getD i false = true ∧ (kept.getD i default).l.size = 0 then (u.set (kept.getD i default).a.toNat true).set (kept.getD i default).b.toNat true else u
def useT (kept : List Fac) : Nat → List Bool → List Bool
  | 0, u => u
  | i + 1, u => useT kept i (useStep kept i u)
def use0 (n : Nat) (same : List Int) : List Bool := (List.replicate n false).set (same.getD (n - 1) 0).toNat true
/-- the rules that are left -/
def outT (used : List Bool) : Nat → List Fac → List Fac → List Int → List Fac
  | _, [], out, _ => out
  | i, r :: ks, out, at_ => if used.getD i false = true then outT used (i + 1) ks (out ++ [trR at_ r]) (at_.set i (out.length : Int)) else outT used (i + 1) ks out at_
def trimL (rs : List Fac) : List Fac :=
  if rs.length = 0 then [] else outT (useT (trK rs [] []).1 rs.length (use0 rs.length (trK rs [] []).2)) 0 (trK rs [] []).1 [] (List.replicate rs.length 0)

/-- what holds of the rules that are told by the first equal ones -/
structure TrI (kept : List Fac) (same : List Int) : Prop where
  len : same.length = kept.length
  s : ∀ j, j < kept.length → 0 ≤ same.getD j 0 ∧ same.getD j 0 ≤ (j : Int)
  k : ∀ (j : Nat) (r : Fac), kept[j]? = some r → (r.l.size = 0 ∧ 0 ≤ r.a ∧ r.a < (j : Int) ∧ 0 ≤ r.b ∧ r.b < (j : Int)) ∨ (∃ c, letB c = true ∧ r.l = ⟨#[c]⟩ ∧ r.a = 0 ∧ r.b = 0)
theorem TrI.nil : TrI [] [] := ⟨rfl, fun j h => absurd h (by simp), fun j r h => by simp at h⟩
theorem TrI.step {rs kept : List Fac} {same : List Int} (h : TrI kept same) (hwf : WF rs) {r : Fac} (hr : rs[kept.length]? = some r) : TrI (kept ++ [trR same r]) (same ++ [((kept.idxOf (trR same r) : Nat) : Int)]) := by
  have hl := h.len
  refine ⟨by simp [hl], fun j hj => ?_, fun j x hx => ?_⟩
  · simp only [List.length_append, List.length_singleton] at hj
    by_cases e : j < kept.length
    · rw [List.getD_eq_getElem?_getD, List.getElem?_append_left (by omega), ← List.getD_eq_getElem?_getD]; exact h.s j e
    · obtain rfl : j = kept.length := by omega
      rw [List.getD_eq_getElem?_getD, List.getElem?_append_right (by omega), hl, Nat.sub_self]
      simp only [List.getElem?_cons_zero, Option.getD_some]
      have := List.idxOf_le_length (a := trR same r) (l := kept)
      omega
  · by_cases e : j < kept.length
    · rw [List.getElem?_append_left e] at hx; exact h.k j x hx
    · have hj2 := (List.getElem?_eq_some_iff.1 hx).1
      simp only [List.length_append, List.length_singleton] at hj2
      obtain rfl : j = kept.length := by omega
      rw [List.getElem?_append_right (Nat.le_refl _), Nat.sub_self] at hx
      obtain rfl : trR same r = x := by simpa using hx
      rcases hwf _ r hr with ⟨h0, a0, a1, b0, b1⟩ | ⟨c, hc, hxl, ha, hb⟩
      · left
        unfold trR
        rw [if_pos h0]
        have s1 := h.s r.a.toNat (by omega)
        have s2 := h.s r.b.toNat (by omega)
        exact ⟨rfl, s1.1, by simp only; omega, s2.1, by simp only; omega⟩
      · right
        have h0 : r.l.size ≠ 0 := by rw [hxl]; show (1 : Nat) ≠ 0; omega
        unfold trR
        rw [if_neg h0]
        exact ⟨c, hc, hxl, ha, hb⟩
/-- the rules told, step by step -/
theorem trK_take (rs : List Fac) {k : Nat} {kept : List Fac} {same : List Int} {r : Fac} (hr : rs[k]? = some r) (H : trK (rs.drop k) kept same = trK rs [] []) : trK (rs.drop (k + 1)) (kept ++ [trR same r]) (same ++ [((kept.idxOf (trR same r) : Nat) : Int)]) = trK rs [] [] := by
  rw [← H, drop_cons hr]; rfl
theorem trK_all {rs : List Fac} {kept : List Fac} {same : List Int} {k : Nat} (hk : rs.length ≤ k) (H : trK (rs.drop k) kept same = trK rs [] []) : (kept, same) = trK rs [] [] := by
  rw [← H, List.drop_of_length_le hk]; rfl
theorem trK_I {rs : List Fac} (hwf : WF rs) : ∀ (k : Nat) (kept : List Fac) (same : List Int), TrI kept same → kept.length = k → k ≤ rs.length → TrI (trK (rs.drop k) kept same).1 (trK (rs.drop k) kept same).2 ∧ (trK (rs.drop k) kept same).1.length = rs.length := by
  intro k
  induction hd : rs.length - k generalizing k with
  | zero =>
    intro kept same h hk hle
    rw [List.drop_of_length_le (by omega)]
    exact ⟨h, by show kept.length = _; omega⟩
  | succ d ih =>
    intro kept same h hk hle
    have hr : rs[k]? = some (rs[k]'(by omega)) := List.getElem?_eq_getElem _
    rw [drop_cons hr]
    exact ih (k + 1) (by omega) _ _ (h.step hwf (by rw [hk]; exact hr)) (by simp [hk]) (by omega)
theorem idx_app1 {f y : Fac} {kept : List Fac} (h : f ∈ kept) : (kept ++ [y]).idxOf f = kept.idxOf f := by rw [List.idxOf_append, if_pos h]
theorem idx_app2 (y : Fac) (kept : List Fac) : (kept ++ [y]).idxOf y = kept.idxOf y := by
  rw [List.idxOf_append]
  by_cases h : y ∈ kept
  · rw [if_pos h]
  · rw [if_neg h, List.idxOf_eq_length h]; simp
/-- the map behind a rule that was known -/
theorem map_known {g : Fac → Option Value} {y : Fac} {kept : List Fac} (h : ∀ f, g f = if f ∈ kept then some (.int .i64 ((kept.idxOf f : Nat) : Int)) else none) (hy : y ∈ kept) (f : Fac) : g f = if f ∈ kept ++ [y] then some (.int .i64 (((kept ++ [y]).idxOf f : Nat) : Int)) else none := by
  rw [h f]
  by_cases hf : f ∈ kept
  · rw [if_pos hf, if_pos (List.mem_append_left _ hf), idx_app1 hf]
  · rw [if_neg hf, if_neg (by
      intro e
      rcases List.mem_append.1 e with e | e
      · exact hf e
      · rw [List.mem_singleton.1 e] at hf; exact hf hy)]
/-- and behind one that was not -/
theorem map_new {g : Fac → Option Value} {y : Fac} {kept : List Fac} (h : ∀ f, g f = if f ∈ kept then some (.int .i64 ((kept.idxOf f : Nat) : Int)) else none) (hy : y ∉ kept) (f : Fac) : (if f = y then some (.int .i64 (kept.length : Int)) else g f) = if f ∈ kept ++ [y] then some (.int .i64 (((kept ++ [y]).idxOf f : Nat) : Int)) else none := by
  by_cases hf : f = y
  · subst hf
    rw [if_pos rfl, if_pos (by simp), idx_app2, List.idxOf_eq_length hy]
  · rw [if_neg hf, h f]
    by_cases hk : f ∈ kept
    · rw [if_pos hk, if_pos (List.mem_append_left _ hk), idx_app1 hk]
    · rw [if_neg hk, if_neg (by
        intro e
        rcases List.mem_append.1 e with e | e
        · exact hk e
        · exact hf (List.mem_singleton.1 e))]
end Go.Proofs.YtmdmgndhapdmgaaGreat


/-
  The letters of a grammar replaced: the plain part.
-/
namespace Go.Proofs.YtmdmgndhapdmgaaGreat

/-- a rule with its numbers raised -/
def rsF (by_ : Int) (r : Fac) : Fac := if r.l.size = 0 then ⟨r.l, r.a + by_, r.b + by_⟩ else r
def raiseL (by_ : Int) (rs : List Fac) : List Fac := rs.map (rsF by_)
theorem raiseL_len (b : Int) (rs : List Fac) : (raiseL b rs).length = rs.length := by simp [raiseL]
/-- is a letter a rule? -/
def usedL (rs : List Fac) (u : UInt8) : Bool := rs.any fun r => decide (r.l = ⟨#[u]⟩)
def lb (k : Nat) : UInt8 := UInt8.ofNat (97 + k)
def mlStep (rs : List Fac) (k : Nat) (w : ByteArray) (s : List Fac × List Int) : List Fac × List Int :=
  if w.size ≠ 0 ∧ usedL rs (lb k) = true then (s.1 ++ raiseL s.1.length (plainL w.data.toList), s.2.set k (((s.1.length + (plainL w.data.toList).length : Nat) : Int) - 1)) else s
def mrStep (st : List Int) (r : Fac) (s : List Fac × List Int) : List Fac × List Int :=
  if r.l.size = 0 then
    (if s.2.getD r.a.toNat 0 < 0 then (s.1, s.2 ++ [s.2.getD r.b.toNat 0])
     else if s.2.getD r.b.toNat 0 < 0 then (s.1, s.2 ++ [s.2.getD r.a.toNat 0])
     else (s.1 ++ [⟨⟨#[]⟩, s.2.getD r.a.toNat 0, s.2.getD r.b.toNat 0⟩], s.2 ++ [(s.1.length : Int)]))
  else (s.1, s.2 ++ [st.getD (letN r.l) 0])
theorem wf_nil : WF [] := fun k r h => by simp at h
theorem wf_snoc {rs : List Fac} (h : WF rs) {a b : Int} (ha : 0 ≤ a ∧ a < rs.length) (hb : 0 ≤ b ∧ b < rs.length) : WF (rs ++ [⟨⟨#[]⟩, a, b⟩]) := by
  intro k r hr
  by_cases hk : k < rs.length
  · rw [List.getElem?_append_left hk] at hr; exact h k r hr
  · rw [List.getElem?_append_right (by omega)] at hr
    have hk' : k = rs.length := by
      have := (List.getElem?_eq_some_iff.1 hr).1
      simp only [List.length_cons, List.length_nil] at this; omega
    subst hk'
    simp at hr
    subst hr
    exact .inl ⟨rfl, ha.1, ha.2, hb.1, hb.2⟩
theorem wf_take {rs : List Fac} (h : WF rs) (n : Nat) : WF (rs.take n) := fun k r hr => by
  rw [List.getElem?_take] at hr
  split at hr
  · exact h k r hr
  · cases hr
theorem wf_raise {xs ys : List Fac} (hx : WF xs) (hy : WF ys) : WF (xs ++ raiseL xs.length ys) := by
  intro k r hr
  by_cases hk : k < xs.length
  · rw [List.getElem?_append_left hk] at hr; exact hx k r hr
  · rw [List.getElem?_append_right (by omega)] at hr
    unfold raiseL at hr
    rw [List.getElem?_map] at hr
    obtain ⟨y, hy1, rfl⟩ := Option.map_eq_some_iff.1 hr
    rcases hy _ y hy1 with ⟨h0, a0, a1, b0, b1⟩ | ⟨c, hc, hl, ha, hb⟩
    · unfold rsF
      rw [if_pos h0]
      exact .inl ⟨h0, by show 0 ≤ y.a + _; omega, by show y.a + _ < _; omega, by show 0 ≤ y.b + _; omega, by show y.b + _ < _; omega⟩
    · unfold rsF
      rw [if_neg (by rw [hl]; show ¬ (1 : Nat) = 0; omega)]
      exact .inr ⟨c, hc, hl, ha, hb⟩
theorem wf_letters (ks : List UInt8) (h : ∀ c ∈ ks, letB c = true) : WF (ks.map ruleC) := fun k r hr => by
  rw [List.getElem?_map] at hr
  obtain ⟨c, hc, rfl⟩ := Option.map_eq_some_iff.1 hr
  exact .inr ⟨c, h c (List.mem_of_getElem? hc), rfl, rfl, rfl⟩
theorem ks_letB {w : List UInt8} {c : UInt8} (h : c ∈ ksP w) : letB c = true := by
  unfold ksP at h
  have := (List.mem_filter.1 h).1
  simp only [List.mem_cons, List.not_mem_nil, or_false] at this
  rcases this with rfl | rfl | rfl | rfl <;> rfl
theorem wf_pairs (w : List UInt8) : ∀ (cs : List UInt8) (b : Int) (xs : List Fac), WF xs → (∀ c ∈ cs, 0 ≤ atP w c ∧ atP w c < xs.length) → 0 ≤ b → b < xs.length → WF (xs ++ pairsP w cs b xs.length)
  | [], b, xs, h, _, _, _ => by simpa [pairsP] using h
  | c :: cs, b, xs, h, hc, hb0, hb1 => by
    have h1 := hc c (by simp)
    have h2 := wf_snoc h ⟨hb0, hb1⟩ h1
    have h3 := wf_pairs w cs (xs.length : Int) (xs ++ [⟨⟨#[]⟩, b, atP w c⟩]) h2 (fun c' hc' => by have := hc c' (by simp [hc']); simp only [List.length_append, List.length_singleton]; omega) (by omega) (by simp only [List.length_append, List.length_singleton]; omega)
    simp only [List.length_append, List.length_singleton, List.append_assoc] at h3
    exact h3
theorem wf_plain {w : List UInt8} (hl : w.all letB = true) : WF (plainL w) := by
  unfold plainL
  split
  · exact wf_nil
  · rename_i c cs
    have hm : ∀ c' ∈ c :: cs, letB c' = true := by simpa using hl
    have hlen : (lettersP (c :: cs)).length = (ksP (c :: cs)).length := by simp [lettersP]
    rw [← hlen]
    have := atP_lt (w := c :: cs) (c := c) (by simp) (hm c (by simp))
    exact wf_pairs _ cs _ _ (wf_letters _ fun _ h => ks_letB h) (fun c' hc' => by rw [hlen]; exact atP_lt (by simp [hc']) (hm c' (by simp [hc']))) this.1 (by rw [hlen]; exact this.2)
theorem plainL_pos {w : List UInt8} (h : w ≠ []) (hl : w.all letB = true) : 0 < (plainL w).length := by
  unfold plainL
  split
  · exact absurd rfl h
  · rename_i c cs
    have hc : letB c = true := by simp at hl; exact hl.1
    have : 0 < (lettersP (c :: cs)).length := by
      rw [List.length_pos_iff_exists_mem]
      exact ⟨ruleC c, List.mem_map.2 ⟨c, mem_ks (by simp) hc, rfl⟩⟩
    simp only [List.length_append]; omega
/-- what holds of the letters' rules and numbers -/
structure MlI (s : List Fac × List Int) (k : Nat) : Prop where
  wf : WF s.1
  st : s.2.length = 4
  b : ∀ i, i < 4 → -1 ≤ s.2.getD i 0 ∧ s.2.getD i 0 < s.1.length
  n : s.1.length ≤ 2004 * k
theorem okW_let {s : ByteArray} (h : okW s = true) : s.data.toList.all letB = true ∧ s.size ≤ 2000 := by
  unfold okW at h; simpa [and_comm] using h
theorem MlI.step {rs : List Fac} {s : List Fac × List Int} {k : Nat} (h : MlI s k) (hk : k < 4) {w : ByteArray} (hw : okW w = true) : MlI (mlStep rs k w s) (k + 1) := by
  unfold mlStep
  split
  · rename_i hc
    obtain ⟨hl, hsz⟩ := okW_let hw
    have h1 := plainL_len w.data.toList
    have h2 := plainL_pos (w := w.data.toList) (fun e => hc.1 (by rw [← byte_len, e]; rfl)) hl
    rw [byte_len] at h1
    refine ⟨wf_raise h.wf (wf_plain hl), by simpa using h.st, fun i hi => ?_, ?_⟩
    · have := h.b i hi
      simp only [List.length_append, raiseL_len]
      rw [List.getD_eq_getElem?_getD, List.getElem?_set]
      split
      · rw [if_pos (by rw [h.st]; omega)]; simp only [Option.getD_some]; omega
      · rw [← List.getD_eq_getElem?_getD]; omega
    · have := h.n
      simp only [List.length_append, raiseL_len]; omega
  · exact ⟨h.wf, h.st, h.b, by have := h.n; omega⟩
theorem MlI.nil : MlI ([], [-1, -1, -1, -1]) 0 := ⟨wf_nil, rfl, fun i hi => by
  rcases i with _ | _ | _ | _ | i
  · decide
  · decide
  · decide
  · decide
  · omega, by simp⟩
/-- what holds of the rules that stand for others -/
structure MrI (s : List Fac × List Int) (n k : Nat) : Prop where
  wf : WF s.1
  st : s.2.length = k
  b : ∀ i, i < k → -1 ≤ s.2.getD i 0 ∧ s.2.getD i 0 < s.1.length
  n : s.1.length ≤ n + k
theorem getD_snoc (xs : List Int) (x : Int) (i : Nat) : (xs ++ [x]).getD i 0 = if i < xs.length then xs.getD i 0 else if i = xs.length then x else 0 := by
  rw [List.getD_eq_getElem?_getD]
  split
  · rw [List.getElem?_append_left (by omega), ← List.getD_eq_getElem?_getD]
  · split
    · rename_i h; subst h; simp
    · rw [List.getElem?_eq_none (by simp; omega)]; rfl
theorem MrI.step {st : List Int} {s : List Fac × List Int} {n k : Nat} (h : MrI s n k) (hst : ∀ i, i < 4 → -1 ≤ st.getD i 0 ∧ st.getD i 0 < s.1.length) {r : Fac}
    (hr : (r.l.size = 0 ∧ 0 ≤ r.a ∧ r.a < k ∧ 0 ≤ r.b ∧ r.b < k) ∨ (∃ c, letB c = true ∧ r.l = ⟨#[c]⟩ ∧ r.a = 0 ∧ r.b = 0)) : MrI (mrStep st r s) n (k + 1) ∧ s.1.length ≤ (mrStep st r s).1.length := by
  have snoc : ∀ (out : List Fac) (x : Int), s.1.length ≤ out.length → -1 ≤ x ∧ x < out.length → ∀ i, i < k + 1 → -1 ≤ (s.2 ++ [x]).getD i 0 ∧ (s.2 ++ [x]).getD i 0 < out.length := by
    intro out x hle hx i hi
    rw [getD_snoc, h.st]
    split
    · have := h.b i (by assumption); omega
    · split
      · exact hx
      · omega
  unfold mrStep
  rcases hr with ⟨h0, a0, a1, b0, b1⟩ | ⟨c, hc, hl, ha, hb⟩
  · rw [if_pos h0]
    have hA := h.b r.a.toNat (by omega)
    have hB := h.b r.b.toNat (by omega)
    split
    · exact ⟨⟨h.wf, by simp [h.st], snoc _ _ (Nat.le_refl _) hB, Nat.le_trans h.n (by omega)⟩, Nat.le_refl _⟩
    · split
      · exact ⟨⟨h.wf, by simp [h.st], snoc _ _ (Nat.le_refl _) hA, Nat.le_trans h.n (by omega)⟩, Nat.le_refl _⟩
      · refine ⟨⟨wf_snoc h.wf ⟨by omega, hA.2⟩ ⟨by omega, hB.2⟩, by simp [h.st], snoc _ _ (by simp) (by simp; omega), by have := h.n; simp; omega⟩, by simp⟩
  · rw [if_neg (by rw [hl]; show ¬ (1 : Nat) = 0; omega)]
    have hq : letN r.l < 4 := by rw [hl]; exact letN_lt (s := ⟨#[c]⟩) hc
    exact ⟨⟨h.wf, by simp [h.st], snoc _ _ (Nat.le_refl _) (hst _ hq), Nat.le_trans h.n (by omega)⟩, Nat.le_refl _⟩
theorem take_succ_at {α : Type} {rs : List α} {k : Nat} {r : α} (h : rs[k]? = some r) : rs.take (k + 1) = rs.take k ++ [r] := by
  rw [List.take_add_one, h]; rfl
end Go.Proofs.YtmdmgndhapdmgaaGreat


/-
  The grammar of a code. Plain.
-/
namespace Go.Proofs.YtmdmgndhapdmgaaGreat
open Go.RowKit

/-! ### which rules are met in which states -/
def put (T : List (List Bool)) (i s : Nat) : List (List Bool) := T.set i ((T.getD i []).set s true)
def metP (M : List (List Int)) (a b s : Nat) (T : List (List Bool)) : List (List Bool) := put (put T a s) b ((M.getD a []).getD s 0).toNat
def metI (M : List (List Int)) (a b : Nat) : List Bool → Nat → List (List Bool) → List (List Bool)
  | [], _, T => T
  | x :: v, s, T => metI M a b v (s + 1) (if x = true then metP M a b s T else T)
def metR (M : List (List Int)) (r : Fac) (i : Nat) (T : List (List Bool)) : List (List Bool) := if r.l.size = 0 then metI M r.a.toNat r.b.toNat (T.getD i []) 0 T else T
def metD (M : List (List Int)) (rs : List Fac) : Nat → List (List Bool) → List (List Bool)
  | 0, T => T
  | i + 1, T => metD M rs i (metR M (rs.getD i ⟨⟨#[]⟩, 0, 0⟩) i T)
def met00 (n S : Nat) : List (List Bool) := List.replicate n (List.replicate S false)
def metT (M : List (List Int)) (rs : List Fac) (S q : Nat) : List (List Bool) := metD M rs rs.length (put (met00 rs.length S) (rs.length - 1) q)
structure Sh (n S : Nat) (T : List (List Bool)) : Prop where
  len : T.length = n
  row : ∀ r ∈ T, r.length = S
section
variable {n S : Nat} {T : List (List Bool)} {M : List (List Int)}
theorem Sh.at_ (h : Sh n S T) {i : Nat} (hi : i < n) : ∃ v, T[i]? = some v ∧ v.length = S := by
  have hx : T[i]? = some (T[i]'(by rw [h.len]; exact hi)) := List.getElem?_eq_getElem _
  exact ⟨_, hx, h.row _ (List.getElem_mem _)⟩
theorem Sh.set (h : Sh n S T) (i : Nat) {v : List Bool} (hv : v.length = S) : Sh n S (T.set i v) := by
  refine ⟨by rw [List.length_set, h.len], fun r hr => ?_⟩
  rcases List.mem_or_eq_of_mem_set hr with hr | rfl
  · exact h.row r hr
  · exact hv
theorem put_eq {i s : Nat} {v : List Bool} (h : T[i]? = some v) : put T i s = T.set i (v.set s true) := by
  unfold put
  rw [List.getD_eq_getElem?_getD, h]; rfl
theorem Sh.put (h : Sh n S T) {i s : Nat} (hi : i < n) : Sh n S (put T i s) := by
  obtain ⟨v, hv, hl⟩ := h.at_ hi
  rw [put_eq hv]
  exact h.set i (by rw [List.length_set, hl])
theorem put_at {i j s : Nat} (hij : i ≠ j) : (put T i s)[j]? = T[j]? := by
  unfold Proofs.YtmdmgndhapdmgaaGreat.put
  rw [List.getElem?_set_ne hij]
theorem metP_eq {a b s t : Nat} {va vb : List Bool} {m : List Int} (ha : T[a]? = some va) (hm : M[a]? = some m) (ht : m[s]? = some (t : Int)) (hb : (T.set a (va.set s true))[b]? = some vb) :
    metP M a b s T = (T.set a (va.set s true)).set b (vb.set t true) := by
  unfold metP
  have e2 : M.getD a [] = m := by rw [List.getD_eq_getElem?_getD, hm]; rfl
  have e3 : m.getD s 0 = (t : Int) := by rw [List.getD_eq_getElem?_getD, ht]; rfl
  rw [put_eq ha, e2, e3, Int.toNat_natCast, put_eq hb]
theorem met00_sh (n S : Nat) : Sh n S (met00 n S) := ⟨by simp [met00], fun r hr => by rw [(List.mem_replicate.1 hr).2]; simp⟩
theorem metI_sh {a b : Nat} (ha : a < n) (hb : b < n) : ∀ (v : List Bool) (s : Nat) (T : List (List Bool)), Sh n S T → Sh n S (metI M a b v s T)
  | [], _, _, h => h
  | x :: v, s, T, h => by
    rw [metI]
    refine metI_sh ha hb v (s + 1) _ ?_
    split
    · exact (h.put ha).put hb
    · exact h
theorem metR_sh {r : Fac} {i : Nat} (hr : r.l.size = 0 → r.a.toNat < n ∧ r.b.toNat < n) (h : Sh n S T) : Sh n S (metR M r i T) := by
  unfold metR
  split
  · rename_i h0
    exact metI_sh (hr h0).1 (hr h0).2 _ _ _ h
  · exact h
theorem metD_sh {rs : List Fac} (hwf : WF rs) : ∀ (i : Nat) (T : List (List Bool)), i ≤ rs.length → Sh rs.length S T → Sh rs.length S (metD M rs i T)
  | 0, _, _, h => h
  | i + 1, T, hi, h => by
    rw [metD]
    refine metD_sh hwf i _ (by omega) (metR_sh (fun h0 => ?_) h)
    have gx : rs[i]? = some (rs[i]'(by omega)) := List.getElem?_eq_getElem _
    have e : rs.getD i ⟨⟨#[]⟩, 0, 0⟩ = rs[i]'(by omega) := by rw [List.getD_eq_getElem?_getD, gx]; rfl
    rw [e] at h0 ⊢
    rcases hwf i _ gx with ⟨_, q1, q2, q3, q4⟩ | ⟨c, _, hl, _⟩
    · omega
    · rw [hl] at h0; cases h0
theorem metT_sh {rs : List Fac} (hwf : WF rs) (h0 : rs.length ≠ 0) (q : Nat) : Sh rs.length S (metT M rs S q) := metD_sh hwf _ _ (Nat.le_refl _) ((met00_sh _ _).put (by omega))
end
/-! ### the rules -/
def wdM (out : List Fac) (w : ByteArray) : List Fac × Int := if w.size = 0 then (out, -1) else (out ++ raiseL (out.length : Int) (plainL w.data.toList), ((out.length + (plainL w.data.toList).length : Nat) : Int) - 1)
def prM (out : List Fac) (l r : Int) : List Fac × Int := if l < 0 then (out, r) else if r < 0 then (out, l) else (out ++ [⟨⟨#[]⟩, l, r⟩], (out.length : Int))
def stM (ot : List (List ByteArray)) (M st : List (List Int)) (r : Fac) (s : Nat) (b : Bool) (out : List Fac) : List Fac × Int :=
  if b = true then
    if r.l.size = 0 then prM out ((st.getD r.a.toNat []).getD s 0) ((st.getD r.b.toNat []).getD ((M.getD r.a.toNat []).getD s 0).toNat 0)
    else wdM out ((ot.getD s []).getD (letN r.l) ⟨#[]⟩)
  else (out, -1)
def rwM (ot : List (List ByteArray)) (M st : List (List Int)) (r : Fac) : List Bool → Nat → List Fac → List Int → List Fac × List Int
  | [], _, out, acc => (out, acc)
  | b :: v, s, out, acc => rwM ot M st r v (s + 1) (stM ot M st r s b out).1 (acc ++ [(stM ot M st r s b out).2])
def mdM (ot : List (List ByteArray)) (M : List (List Int)) (mt : List (List Bool)) : List Fac → Nat → List Fac → List (List Int) → List Fac × List (List Int)
  | [], _, out, st => (out, st)
  | r :: rs, i, out, st => mdM ot M mt rs (i + 1) (rwM ot M st r (mt.getD i []) 0 out []).1 (st ++ [(rwM ot M st r (mt.getD i []) 0 out []).2])
/-- places of rules, or none -/
def PlL (S len : Nat) (v : List Int) : Prop := v.length = S ∧ ∀ z ∈ v, -1 ≤ z ∧ z < (len : Int)
theorem PlL.at_ {S len : Nat} {v : List Int} (h : PlL S len v) {s : Nat} (hs : s < S) : ∃ z : Int, v[s]? = some z ∧ -1 ≤ z ∧ z < (len : Int) := by
  have hx : v[s]? = some (v[s]'(by rw [h.1]; exact hs)) := List.getElem?_eq_getElem _
  have := h.2 _ (List.getElem_mem (by rw [h.1]; exact hs : s < v.length))
  exact ⟨_, hx, this.1, this.2⟩
theorem PlL.more {S len len' : Nat} {v : List Int} (h : PlL S len v) (hl : len ≤ len') : PlL S len' v := ⟨h.1, fun z hz => by have := h.2 z hz; omega⟩
theorem PlL.snoc {S len : Nat} {v : List Int} (h : PlL S len v) {z : Int} (h1 : -1 ≤ z) (h2 : z < (len : Int)) : PlL (S + 1) len (v ++ [z]) := by
  refine ⟨by rw [List.length_append, h.1]; rfl, fun y hy => ?_⟩
  rcases List.mem_append.1 hy with hy | hy
  · exact h.2 y hy
  · rw [List.mem_singleton.1 hy]; exact ⟨h1, h2⟩
/-- what a step leaves -/
structure StOk (out : List Fac) (p : List Fac × Int) : Prop where
  wf : WF p.1
  lo : out.length ≤ p.1.length
  hi : p.1.length ≤ out.length + 10
  z0 : -1 ≤ p.2
  z1 : p.2 < (p.1.length : Int)
theorem wdM_ok {out : List Fac} {w : ByteArray} (hw : WF out) (ho : okW w = true) (h6 : w.size ≤ 6) : StOk out (wdM out w) := by
  unfold wdM
  split
  · exact ⟨hw, Nat.le_refl _, by show out.length ≤ _; omega, by show (-1 : Int) ≤ -1; omega, by show (-1 : Int) < (out.length : Int); omega⟩
  · rename_i h0
    have hl : w.data.toList.all letB = true := by unfold okW at ho; simp only [Bool.and_eq_true] at ho; exact ho.2
    have hlen : w.data.toList.length = w.size := byte_len w
    have h1 := plainL_len w.data.toList
    have h2 := plainL_pos (w := w.data.toList) (fun e => h0 (by rw [← hlen, e]; rfl)) hl
    refine ⟨wf_raise hw (wf_plain hl), ?_, ?_, ?_, ?_⟩
    · simp
    · simp only [List.length_append, raiseL_len]; omega
    · simp only; omega
    · simp only [List.length_append, raiseL_len]; omega
theorem prM_ok {out : List Fac} {l r : Int} (hw : WF out) (l0 : -1 ≤ l) (l1 : l < (out.length : Int)) (r0 : -1 ≤ r) (r1 : r < (out.length : Int)) : StOk out (prM out l r) := by
  unfold prM
  split
  · exact ⟨hw, Nat.le_refl _, by show out.length ≤ _; omega, r0, r1⟩
  · split
    · exact ⟨hw, Nat.le_refl _, by show out.length ≤ _; omega, l0, l1⟩
    · refine ⟨wf_snoc hw (by omega) (by omega), by simp, by simp, ?_, ?_⟩
      · show (-1 : Int) ≤ (out.length : Int); omega
      · simp; omega
/-- the rules made so far -/
structure MdI (S k : Nat) (out : List Fac) (st : List (List Int)) : Prop where
  wf : WF out
  len : st.length = k
  row : ∀ v ∈ st, PlL S out.length v
  le : out.length ≤ 240 * k
theorem MdI.at_ {S k : Nat} {out : List Fac} {st : List (List Int)} (h : MdI S k out st) {i : Nat} (hi : i < k) : ∃ v, st[i]? = some v ∧ PlL S out.length v := by
  have hx : st[i]? = some (st[i]'(by rw [h.len]; exact hi)) := List.getElem?_eq_getElem _
  exact ⟨_, hx, h.row _ (List.getElem_mem _)⟩
/-- a row under way -/
structure RwI (S k : Nat) (st : List (List Int)) (s : Nat) (out : List Fac) (acc : List Int) : Prop where
  wf : WF out
  len : st.length = k
  row : ∀ v ∈ st, PlL S out.length v
  acc : PlL s out.length acc
  le : out.length ≤ 240 * k + 10 * s
theorem RwI.at_ {S k s : Nat} {out : List Fac} {acc : List Int} {st : List (List Int)} (h : RwI S k st s out acc) {i : Nat} (hi : i < k) : ∃ v, st[i]? = some v ∧ PlL S out.length v := by
  have hx : st[i]? = some (st[i]'(by rw [h.len]; exact hi)) := List.getElem?_eq_getElem _
  exact ⟨_, hx, h.row _ (List.getElem_mem _)⟩
theorem MdI.start {S k : Nat} {out : List Fac} {st : List (List Int)} (h : MdI S k out st) : RwI S k st 0 out [] := ⟨h.wf, h.len, h.row, ⟨rfl, fun z hz => by simp at hz⟩, by have := h.le; omega⟩
theorem RwI.fin {S k : Nat} {out : List Fac} {acc : List Int} {st : List (List Int)} (h : RwI S k st S out acc) (hS : S ≤ 24) : MdI S (k + 1) out (st ++ [acc]) := by
  refine ⟨h.wf, by rw [List.length_append, h.len]; rfl, fun v hv => ?_, by have := h.le; omega⟩
  rcases List.mem_append.1 hv with hv | hv
  · exact h.row v hv
  · rw [List.mem_singleton.1 hv]; exact h.acc
theorem RwI.step {S k s : Nat} {out : List Fac} {acc : List Int} {st : List (List Int)} {p : List Fac × Int} (h : RwI S k st s out acc) (hp : StOk out p) : RwI S k st (s + 1) p.1 (acc ++ [p.2]) :=
  ⟨hp.wf, h.len, fun v hv => (h.row v hv).more hp.lo, (h.acc.more hp.lo).snoc hp.z0 hp.z1, by have := hp.hi; have := h.le; omega⟩
theorem mdI_nil (S : Nat) : MdI S 0 [] [] := ⟨wf_nil, rfl, fun v hv => by simp at hv, by simp⟩
section
variable {S k : Nat} {ot : List (List ByteArray)} {M st : List (List Int)} {out : List Fac} {acc : List Int}
/-- the word of a letter in a state -/
theorem stM_word {r : Fac} {s l : Nat} {row : List ByteArray} {t : ByteArray} (h0 : r.l.size ≠ 0) (hl : letN r.l = l) (h1 : ot[s]? = some row) (h2 : row[l]? = some t) : stM ot M st r s true out = wdM out t := by
  unfold stM
  rw [if_pos rfl, if_neg h0, hl]
  have e1 : ot.getD s [] = row := by rw [List.getD_eq_getElem?_getD, h1]; rfl
  rw [e1, List.getD_eq_getElem?_getD, h2]; rfl
theorem stM_pair {r : Fac} {s a b t : Nat} {va vb m : List Int} {x y : Int} (h0 : r.l.size = 0) (ha : r.a = ((a : Nat) : Int)) (hb : r.b = ((b : Nat) : Int)) (hm : M[a]? = some m) (ht : m[s]? = some (t : Int)) (h1 : st[a]? = some va) (h2 : va[s]? = some x) (h3 : st[b]? = some vb) (h4 : vb[t]? = some y) :
    stM ot M st r s true out = prM out x y := by
  unfold stM
  rw [if_pos rfl, if_pos h0, ha, hb, Int.toNat_natCast, Int.toNat_natCast]
  have e1 : st.getD a [] = va := by rw [List.getD_eq_getElem?_getD, h1]; rfl
  have e2 : M.getD a [] = m := by rw [List.getD_eq_getElem?_getD, hm]; rfl
  have e3 : m.getD s 0 = (t : Int) := by rw [List.getD_eq_getElem?_getD, ht]; rfl
  have e4 : st.getD b [] = vb := by rw [List.getD_eq_getElem?_getD, h3]; rfl
  have e5 : va.getD s 0 = x := by rw [List.getD_eq_getElem?_getD, h2]; rfl
  have e6 : vb.getD t 0 = y := by rw [List.getD_eq_getElem?_getD, h4]; rfl
  rw [e1, e2, e3, Int.toNat_natCast, e4, e5, e6]
theorem stM_ok {s : Nat} {r : Fac} {b : Bool} (hot : OtOk S ot) (hM : ∀ i, i < k → StL S (M.getD i [])) (h : RwI S k st s out acc) (hs : s < S)
    (hr : (r.l.size = 0 ∧ 0 ≤ r.a ∧ r.a < k ∧ 0 ≤ r.b ∧ r.b < k) ∨ (∃ c, letB c = true ∧ r.l = ⟨#[c]⟩ ∧ r.a = 0 ∧ r.b = 0)) : StOk out (stM ot M st r s b out) := by
  cases b
  · exact ⟨h.wf, Nat.le_refl _, by show out.length ≤ _; omega, by show (-1 : Int) ≤ -1; omega, by show (-1 : Int) < (out.length : Int); omega⟩
  rcases hr with ⟨h0, a0, a1, b0, b1⟩ | ⟨c, hc, hl, _⟩
  · obtain ⟨va, e1, pa⟩ := h.at_ (i := r.a.toNat) (by omega)
    obtain ⟨vb, e3, pb⟩ := h.at_ (i := r.b.toNat) (by omega)
    obtain ⟨x, e2, x0, x1⟩ := pa.at_ hs
    have hm := hM r.a.toNat (by omega)
    obtain ⟨t, et, t1⟩ := hm.at_ hs
    obtain ⟨y, e4, y0, y1⟩ := pb.at_ t1
    have : stM ot M st r s true out = prM out x y := by
      unfold stM
      rw [if_pos rfl, if_pos h0]
      have f1 : st.getD r.a.toNat [] = va := by rw [List.getD_eq_getElem?_getD, e1]; rfl
      have f3 : (M.getD r.a.toNat []).getD s 0 = (t : Int) := by
        generalize M.getD r.a.toNat [] = m at *
        rw [List.getD_eq_getElem?_getD, et]; rfl
      have f4 : st.getD r.b.toNat [] = vb := by rw [List.getD_eq_getElem?_getD, e3]; rfl
      have f5 : va.getD s 0 = x := by rw [List.getD_eq_getElem?_getD, e2]; rfl
      have f6 : vb.getD t 0 = y := by rw [List.getD_eq_getElem?_getD, e4]; rfl
      rw [f1, f3, Int.toNat_natCast, f4, f5, f6]
    rw [this]
    exact prM_ok h.wf x0 x1 y0 y1
  · have h0 : r.l.size ≠ 0 := by rw [hl]; show (1 : Nat) ≠ 0; omega
    obtain ⟨row, t, e1, _, e2, ho, h6⟩ := hot.at_ hs (letN_lt (show letT r.l = true by rw [hl]; exact hc))
    rw [stM_word h0 rfl e1 e2]
    exact wdM_ok h.wf ho h6
theorem rwM_ok {r : Fac} (hot : OtOk S ot) (hM : ∀ i, i < k → StL S (M.getD i [])) (hr : (r.l.size = 0 ∧ 0 ≤ r.a ∧ r.a < k ∧ 0 ≤ r.b ∧ r.b < k) ∨ (∃ c, letB c = true ∧ r.l = ⟨#[c]⟩ ∧ r.a = 0 ∧ r.b = 0)) :
    ∀ (v : List Bool) (s : Nat) (out : List Fac) (acc : List Int), s + v.length = S → RwI S k st s out acc → RwI S k st S (rwM ot M st r v s out acc).1 (rwM ot M st r v s out acc).2 ∧ out.length ≤ (rwM ot M st r v s out acc).1.length
  | [], s, out, acc, hs, h => by
    have : s = S := by simpa using hs
    subst this
    exact ⟨h, Nat.le_refl _⟩
  | b :: v, s, out, acc, hs, h => by
    rw [List.length_cons] at hs
    have h1 := stM_ok (b := b) hot hM h (by omega) hr
    obtain ⟨h2, h3⟩ := rwM_ok hot hM hr v (s + 1) _ _ (by omega) (h.step h1)
    rw [rwM]
    exact ⟨h2, Nat.le_trans h1.lo h3⟩
theorem mdM_ok {rs : List Fac} {mt : List (List Bool)} (hS : S ≤ 24) (hot : OtOk S ot) (hM : ∀ i, i < rs.length → StL S (M.getD i [])) (hwf : WF rs) (hmt : Sh rs.length S mt) :
    ∀ (j k : Nat) (out : List Fac) (st : List (List Int)), k + j = rs.length → MdI S k out st → MdI S rs.length (mdM ot M mt (rs.drop k) k out st).1 (mdM ot M mt (rs.drop k) k out st).2 ∧ out.length ≤ (mdM ot M mt (rs.drop k) k out st).1.length
  | 0, k, out, st, hk, h => by
    have : k = rs.length := by omega
    subst this
    rw [List.drop_of_length_le (Nat.le_refl _)]
    exact ⟨h, Nat.le_refl _⟩
  | j + 1, k, out, st, hk, h => by
    have gx : rs[k]? = some (rs[k]'(by omega)) := List.getElem?_eq_getElem _
    obtain ⟨v, ev, lv⟩ := hmt.at_ (i := k) (by omega)
    have e : mt.getD k [] = v := by rw [List.getD_eq_getElem?_getD, ev]; rfl
    obtain ⟨h1, h2⟩ := rwM_ok (k := k) (r := rs[k]'(by omega)) hot (fun i hi => hM i (by omega)) (hwf k _ gx) v 0 out [] (by omega) h.start
    obtain ⟨h3, h4⟩ := mdM_ok hS hot hM hwf hmt j (k + 1) _ _ (by omega) (h1.fin hS)
    rw [drop_cons gx, mdM, e]
    exact ⟨h3, Nat.le_trans h2 h4⟩
end
/-! ### the whole -/
def mdA (nx : List (List Int)) (ot : List (List ByteArray)) (S q : Nat) (rs : List Fac) : List Fac × List (List Int) := mdM ot (maps nx rs) (metT (maps nx rs) rs S q) rs 0 [] []
def rootM (nx : List (List Int)) (ot : List (List ByteArray)) (S q : Nat) (rs : List Fac) : Int := ((mdA nx ot S q rs).2.getD (rs.length - 1) []).getD q 0
def cgL (nx : List (List Int)) (ot : List (List ByteArray)) (S q : Nat) (rs : List Fac) : List Fac × Int :=
  if rs.length = 0 then ([], 0) else if 400 < (mdA nx ot S q rs).1.length ∨ 1000000000000000 < codN nx ot q rs then ([], 3) else (trimL ((mdA nx ot S q rs).1.take (rootM nx ot S q rs + 1).toNat), 0)
theorem mdA_ok {nx : List (List Int)} {ot : List (List ByteArray)} {S q : Nat} {rs : List Fac} (hS : S ≤ 24) (hok : NxOk S nx) (hot : OtOk S ot) (hwf : WF rs) (h0 : rs.length ≠ 0) : MdI S rs.length (mdA nx ot S q rs).1 (mdA nx ot S q rs).2 := by
  have := (mdM_ok (rs := rs) (M := maps nx rs) (mt := metT (maps nx rs) rs S q) hS hot (maps_ok hok hwf) hwf (metT_sh hwf h0 q) rs.length 0 [] [] (by omega) (mdI_nil S)).1
  rw [List.drop_zero] at this
  exact this
end Go.Proofs.YtmdmgndhapdmgaaGreat
