/-
  Level grammars in the program: a rule, added if it is not there.
-/
import Derived.Test.YtikhjoianbndhaaLvW
import Derived.Test.YtikhjoianbndhaaTrimI
import Derived.Test.YtikhjoianbndhaaStage
namespace Go.Proofs.Ytikhjoianbndhaa
open Go.RowKit

section
variable {P : Program} {ops : Array Oper} {Q : Exit → Act → World → Prop} {md : Region.Mode} {S : World → Prop} {N : List Nat}
theorem wpAnyN_T : ∀ (fuel : Nat) {listed : Array Bool} {a : Act} {w : World}, wpAny P md ops Q fuel listed a w → wpAnyN P md ops Q (fun _ => True) N fuel listed a w
  | 0, _, _, _, h => h
  | fuel + 1, _, _, _, h => ⟨h.1, fun i hi => wpOp_mono (fun a' w' h' => ⟨fun _ => trivial, wpAnyN_T fuel h'⟩) (h.2 i hi)⟩
/-- Two may come up. -/
theorem wpAnyN_two {i j : Nat} {o o' : Oper} {fuel : Nat} {listed : Array Bool} {a : Act} {w : World} (ho : ops[i]? = some o) (ho' : ops[j]? = some o') (hr : Region.ready md ops listed = [i, j])
    (h : ∀ K' : Act → World → Prop, Shut (∀ a w, (N.contains i = false → S w) → wpAnyN P md ops Q S N fuel (listed.setIfInBounds i true) a w → K' a w) → if Region.wanted o (yielded ops a.tmps) = true then Oper.wp P o a w K' Q else K' (a.put o.dst undef) w)
    (h' : ∀ K' : Act → World → Prop, Shut (∀ a w, (N.contains j = false → S w) → wpAnyN P md ops Q S N fuel (listed.setIfInBounds j true) a w → K' a w) → if Region.wanted o' (yielded ops a.tmps) = true then Oper.wp P o' a w K' Q else K' (a.put o'.dst undef) w) :
    wpAnyN P md ops Q S N (fuel + 1) listed a w := by
  refine ⟨fun h0 => (by rw [h0] at hr; cases hr), fun k hk => ?_⟩
  rw [hr] at hk
  rcases List.mem_cons.1 hk with rfl | hk
  · exact wpOp_step ho (fun K' hK => h K' (fun a w hS hW => hK a w ⟨hS, hW⟩))
  · obtain rfl : k = j := by simpa using hk
    exact wpOp_step ho' (fun K' hK => h' K' (fun a w hS hW => hK a w ⟨hS, hW⟩))
theorem fin_ {p : Prop} (h : p) : p := h
end
section
variable {α : Type} [DecidableEq α] {P : Program} {w0 w : World} {ops : Array Oper} {o : Oper} {a : Act} {Kw : Act → World → Prop} {Q : Exit → Act → World → Prop} {E : Prop} {b : Nat} {K : α → Value} {m : List (α × Value)} {kt t e : TypeId}
/-- a store into a map of the call's own, as a step -/
theorem step_put (hgd : o.guard = none) (s k x : Operand) (ho : o.op = .mapUpdate t s k x) (KO : KeyOk P kt K) (ht : P.underlying t = some (.map kt e)) (hs : a.eval s = .map (some b)) (y : α) (v : Value) (hk : a.eval k = K y) (hx : a.eval x = v)
    (h : MapIs w b K m) (base : Nat) (hbase : base = w0.heap.size) (hbb : base ≤ b) (hb : Below base w0 w)
    (hK : ∀ w', MapIs w' b K (mput y v m) → w.grownBy w' (some b) → Below base w0 w' → Kw (a.put o.dst undef) w') : if Region.wanted o (yielded ops a.tmps) = true then Oper.wp P o a w Kw Q else E := by
  obtain ⟨w', hr, r1, r2, r3⟩ := h.put (P := P) KO ht y v
  have hw : Region.wanted o (yielded ops a.tmps) = true := by simp [Region.wanted, hgd]
  rw [if_pos hw]
  unfold Oper.wp execOp
  simp only [ho, hs, hk, hx, Sem.run_bind, hr, Result.andThen_ok, Sem.run_pure]
  exact hK w' r1 r2 (hb.grown r2 (by rw [hbase]; exact hb.size) (fun k hk => by cases hk; exact hbb))
end
/-- the program's maker under way -/
structure LvP (w0 W : World) (X M : Nat) (A : Option Addr) (n c : Nat) (B : Option Addr) (d : Nat) (s : LvS) (mm : List (Fac × Value)) : Prop where
  g : LvG 83 w0 W X (.map (some M)) A n c B n d s.rs s.ds
  m : MapIs W M Fac.val mm
  k : ∀ f, mget f mm = if f ∈ s.rs then some (.int .i64 ((s.rs.idxOf f : Nat) : Int)) else none
  hm : w0.heap.size ≤ M ∧ M ≠ X
  hr : s.rs.length = n
  hd : s.ds.length = n
theorem LvP.next {w0 W W' : World} {X M : Nat} {A : Option Addr} {n c : Nat} {B : Option Addr} {d : Nat} {s : LvS} {mm : List (Fac × Value)} (h : LvP w0 W X M A n c B d s mm) (hb : Below W.heap.size W W') : LvP w0 W' X M A n c B d s mm :=
  ⟨h.g.next hb, h.m.next hb, h.k, h.hm, h.hr, h.hd⟩
/-- what a call answers -/
def LvQ (w0 W : World) (X M : Nat) (v u : Value) (t : LvS × Int) (e : Ending) (W' : World) : Prop :=
  e = .returned (.int .i64 t.2) ∧ ∃ A n c B d mm, LvP w0 W' X M A n c B d t.1 mm ∧ LvF W W' X M v (.slice A n c) u (.slice B n d)
structure LvZ (w0 W0 W : World) (X M : Nat) (A : Option Addr) (n c : Nat) (B : Option Addr) (m d : Nat) (rs : List Fac) (ds : List Int) (vx ux v u : Value) (mm : List (Fac × Value)) : Prop where
  g : LvG' 83 w0 W X (.map (some M)) A n c B m d rs ds vx ux
  mp : MapIs W M Fac.val mm
  f : LvF W0 W X M v (.slice A n c) u (.slice B m d)
  hm : w0.heap.size ≤ M ∧ M ≠ X
section
variable {w0 W0 W W' : World} {X M : Nat} {A : Option Addr} {n c : Nat} {B : Option Addr} {m d : Nat} {rs : List Fac} {ds : List Int} {vx ux v u : Value} {mm : List (Fac × Value)}
theorem LvZ.next (h : LvZ w0 W0 W X M A n c B m d rs ds vx ux v u mm) (hb : Below W.heap.size W W') : LvZ w0 W0 W' X M A n c B m d rs ds vx ux v u mm := ⟨h.g.next hb, h.mp.next hb, h.f.trans (LvF.of_below hb), h.hm⟩
theorem LvZ.alloc (h : LvZ w0 W0 W X M A n c B m d rs ds vx ux v u mm) (o : Obj) : LvZ w0 W0 (W.alloc o) X M A n c B m d rs ds vx ux v u mm := h.next ((Below.refl _ _).alloc (Nat.le_refl _) _)
theorem LvZ.drew (h : LvZ w0 W0 W X M A n c B m d rs ds vx ux v u mm) : LvZ w0 W0 W.drew X M A n c B m d rs ds vx ux v u mm := h.next (Below.refl _ _).drew
theorem LvZ.pushR {A8 : Option Addr} {k8 c8 : Nat} {rs' : List Fac} (h : LvZ w0 W0 W X M A n c B m d rs ds vx ux v u mm) (hq : W'.ownsRow w0.heap.size 44 3 (.slice A8 k8 c8) k8 (rs'.flatMap Fac.cells)) (hg : W.grownBy W' (Value.slice A n c).ownBlock)
    (hat : (Value.slice A8 k8 c8).ownBlock = (Value.slice A n c).ownBlock ∨ (Value.slice A8 k8 c8).ownBlock = some W.heap.size) : LvZ w0 W0 W' X M A8 k8 c8 B m d rs' ds vx ux v u mm :=
  ⟨h.g.pushR hq hg, h.mp.grown hg (h.mp.ne_own h.g.q), h.f.trans (LvF.of_grown hg hat), h.hm⟩
theorem LvZ.pushD {B8 : Option Addr} {k8 c8 : Nat} {ds' : List Int} (h : LvZ w0 W0 W X M A n c B m d rs ds vx ux v u mm) (hq : W'.ownsRow w0.heap.size 2 1 (.slice B8 k8 c8) k8 (ds'.flatMap intE)) (hg : W.grownBy W' (Value.slice B m d).ownBlock)
    (hat : (Value.slice B8 k8 c8).ownBlock = (Value.slice B m d).ownBlock ∨ (Value.slice B8 k8 c8).ownBlock = some W.heap.size) : LvZ w0 W0 W' X M A n c B8 k8 c8 rs ds' vx ux v u mm :=
  ⟨h.g.pushD hq hg, h.mp.grown hg (h.mp.ne_own h.g.k), h.f.trans (LvF.of_grown' hg hat), h.hm⟩
theorem LvZ.set0 (h : LvZ w0 W0 W X M A n c B m d rs ds vx ux v u mm) (y : Value) : LvZ w0 W0 (W.setCell ⟨X, 0, none⟩ y) X M A n c B m d rs ds y ux v u mm := ⟨h.g.set0 y, h.mp.far h.hm.2 _, h.f.setX 0 y, h.hm⟩
theorem LvZ.set1 (h : LvZ w0 W0 W X M A n c B m d rs ds vx ux v u mm) (y : Value) : LvZ w0 W0 (W.setCell ⟨X, 1, none⟩ y) X M A n c B m d rs ds vx y v u mm := ⟨h.g.set1 y, h.mp.far h.hm.2 _, h.f.setX 1 y, h.hm⟩
theorem LvZ.put {mm' : List (Fac × Value)} (h : LvZ w0 W0 W X M A n c B m d rs ds vx ux v u mm) (hm : MapIs W' M Fac.val mm') (hg : W.grownBy W' (some M)) (hb : Below w0.heap.size w0 W') : LvZ w0 W0 W' X M A n c B m d rs ds vx ux v u mm' :=
  ⟨h.g.put h.mp h.hm.2 hg hb, hm, h.f.trans (LvF.of_map hg), h.hm⟩
theorem LvP.z {s : LvS} (h : LvP w0 W X M A n c B d s mm) (hf : LvF W0 W X M v (.slice A n c) u (.slice B n d)) : LvZ w0 W0 W X M A n c B n d s.rs s.ds (.slice A n c) (.slice B n d) v u mm := ⟨h.g.open, h.m, hf, h.hm⟩
end
set_option maxHeartbeats 8000000 in
set_option maxRecDepth 100000 in
theorem lvRule_any (w0 : World) (X M : Nat) (r : Fac) (s : LvS) (A : Option Addr) (n c : Nat) (B : Option Addr) (d : Nat) (mm : List (Fac × Value)) (W : World) (hi : LvI s) (hn : n ≤ 100000) (ho : RuleOk s r) (h : LvP w0 W X M A n c B d s mm) :
    Calls Try.prog 51 #[.pointer (some ⟨X, 0, none⟩), r.val] W (LvQ w0 W X M (.slice A n c) (.slice B n d) (lvRule s r)) := by
  obtain ⟨x, hx⟩ : ∃ x, x = r := ⟨_, rfl⟩
  have HI := Lib.hid hi
  have HO := Lib.hid ho
  have P0 := Lib.hid h
  have xc2 := h.g.x.cell 2
  have xl := h.g.x.lt
  have P1 := Lib.hid (h.next ((Below.refl _ _).alloc (Nat.le_refl _) (.cells #[.string r.l, .int .i64 r.a, .int .i64 r.b] 44)))
  have F1 := Lib.hid (LvF.of_below (X := X) (M := M) (v := .slice A n c) (u := .slice B n d) ((Below.refl W.heap.size W).alloc (Nat.le_refl _) (.cells #[.string r.l, .int .i64 r.a, .int .i64 r.b] 44)))
  have BX1 := Lib.hid (Blk.new W 44 #[.string r.l, .int .i64 r.a, .int .i64 r.b])
  obtain ⟨kn, hkn⟩ : ∃ kn, (mget r mm).isSome = kn := ⟨_, rfl⟩
  obtain ⟨vv, hvv⟩ : ∃ vv, (mget r mm).getD (.int .i64 0) = vv := ⟨_, rfl⟩
  have Hkn := Lib.hid hkn
  have Hvv := Lib.hid hvv
  clear hkn hvv hi ho h hx
  go_enter Try.func51, Try.ntmps51
  have P1 := Lib.hid (P1.out.next (Below.refl _ _).drew)
  have F1 := Lib.hid (F1.out.trans (LvF.of_below (Below.refl _ _).drew))
  have BX1 := Lib.hid BX1.out.drew
  go_wp2_with fail
  refine wp_region_N (fun W' => W'.cell? ⟨X, 2, none⟩ = some (.map (some M)) ∧ W'.cell? ⟨W.heap.size, 0, none⟩ = some (.string r.l) ∧ W'.cell? ⟨W.heap.size, 1, none⟩ = some (.int .i64 r.a) ∧ W'.cell? ⟨W.heap.size, 2, none⟩ = some (.int .i64 r.b) ∧ (Instr.lookup 81 (.map (some M)) (.agg #[.string r.l, .int .i64 r.a, .int .i64 r.b]) true).run Try.prog W' = .ok (.tuple #[vv, .bool kn]) W') [] (by kernel_rfl) ?_
  generalize hw1 : (W.alloc (.cells #[.string r.l, .int .i64 r.a, .int .i64 r.b] 44)).drew = W1 at *
  have Hw1 := Lib.hid hw1; clear hw1 xc2
  have hlk : ∀ W', MapIs W' M Fac.val mm → (Instr.lookup 81 (.map (some M)) (.agg #[.string r.l, .int .i64 r.a, .int .i64 r.b]) true).run Try.prog W' = .ok (.tuple #[vv, .bool kn]) W' := fun W' hm => by
    have := hm.lookOk rule_key Try.underlying81 (zero_i64 _) r
    rw [Hkn.out, Hvv.out] at this
    exact this
  have hS0 : W1.cell? ⟨X, 2, none⟩ = some (.map (some M)) ∧ W1.cell? ⟨W.heap.size, 0, none⟩ = some (.string r.l) ∧ W1.cell? ⟨W.heap.size, 1, none⟩ = some (.int .i64 r.a) ∧ W1.cell? ⟨W.heap.size, 2, none⟩ = some (.int .i64 r.b) ∧ (Instr.lookup 81 (.map (some M)) (.agg #[.string r.l, .int .i64 r.a, .int .i64 r.b]) true).run Try.prog W1 = .ok (.tuple #[vv, .bool kn]) W1 :=
    ⟨P1.out.g.x.cell 2, BX1.out.cell 0, BX1.out.cell 1, BX1.out.cell 2, hlk _ P1.out.m⟩
  clear hlk
  refine wpAnyN_take (i := 0) (v := ?_) rfl (by kernel_rfl) (fun _ _ _ h => h) (by rfl) (fun W hW => ?_) hS0 ?_
  rotate_left
  · obtain ⟨z0, z1, z2, z3, z4⟩ := hW
    go_simp
    try with_reducible rfl
  try simp only [List.getElem_toArray, List.getElem_cons_zero, List.getElem_cons_succ, Act.put, List.setIfInBounds_toArray, List.set_cons_zero, List.set_cons_succ]
  refine wpAnyN_take (i := 1) (v := ?_) rfl (by kernel_rfl) (fun _ _ _ h => h) (by rfl) (fun W hW => ?_) hS0 ?_
  rotate_left
  · obtain ⟨z0, z1, z2, z3, z4⟩ := hW
    go_simp
    try with_reducible rfl
  try simp only [List.getElem_toArray, List.getElem_cons_zero, List.getElem_cons_succ, Act.put, List.setIfInBounds_toArray, List.set_cons_zero, List.set_cons_succ]
  refine wpAnyN_take (i := 2) (v := ?_) rfl (by kernel_rfl) (fun _ _ _ h => h) (by rfl) (fun W hW => ?_) hS0 ?_
  rotate_left
  · obtain ⟨z0, z1, z2, z3, z4⟩ := hW
    go_simp
    try with_reducible rfl
  try simp only [List.getElem_toArray, List.getElem_cons_zero, List.getElem_cons_succ, Act.put, List.setIfInBounds_toArray, List.set_cons_zero, List.set_cons_succ]
  refine wpAnyN_take (i := 3) (v := ?_) rfl (by kernel_rfl) (fun _ _ _ h => h) (by rfl) (fun W hW => ?_) hS0 ?_
  rotate_left
  · obtain ⟨z0, z1, z2, z3, z4⟩ := hW
    go_simp
    try with_reducible rfl
  try simp only [List.getElem_toArray, List.getElem_cons_zero, List.getElem_cons_succ, Act.put, List.setIfInBounds_toArray, List.set_cons_zero, List.set_cons_succ]
  refine wpAnyN_take (i := 4) (v := ?_) rfl (by kernel_rfl) (fun _ _ _ h => h) (by rfl) (fun W hW => ?_) hS0 ?_
  rotate_left
  · obtain ⟨z0, z1, z2, z3, z4⟩ := hW
    go_simp
    try with_reducible rfl
  try simp only [List.getElem_toArray, List.getElem_cons_zero, List.getElem_cons_succ, Act.put, List.setIfInBounds_toArray, List.set_cons_zero, List.set_cons_succ]
  refine wpAnyN_take (i := 5) (v := ?_) rfl (by kernel_rfl) (fun _ _ _ h => h) (by rfl) (fun W hW => ?_) hS0 ?_
  rotate_left
  · obtain ⟨z0, z1, z2, z3, z4⟩ := hW
    go_simp
    try with_reducible rfl
  try simp only [List.getElem_toArray, List.getElem_cons_zero, List.getElem_cons_succ, Act.put, List.setIfInBounds_toArray, List.set_cons_zero, List.set_cons_succ]
  refine wpAnyN_take (i := 6) (v := ?_) rfl (by kernel_rfl) (fun _ _ _ h => h) (by rfl) (fun W hW => ?_) hS0 ?_
  rotate_left
  · obtain ⟨z0, z1, z2, z3, z4⟩ := hW
    go_simp
    try with_reducible rfl
  try simp only [List.getElem_toArray, List.getElem_cons_zero, List.getElem_cons_succ, Act.put, List.setIfInBounds_toArray, List.set_cons_zero, List.set_cons_succ]
  refine wpAnyN_take (i := 7) (v := ?_) rfl (by kernel_rfl) (fun _ _ _ h => h) (by rfl) (fun W hW => ?_) hS0 ?_
  rotate_left
  · obtain ⟨z0, z1, z2, z3, z4⟩ := hW
    go_simp
    try with_reducible rfl
  try simp only [List.getElem_toArray, List.getElem_cons_zero, List.getElem_cons_succ, Act.put, List.setIfInBounds_toArray, List.set_cons_zero, List.set_cons_succ]
  refine wpAnyN_take (i := 8) (v := ?_) rfl (by kernel_rfl) (fun _ _ _ h => h) (by rfl) (fun W hW => ?_) hS0 ?_
  rotate_left
  · obtain ⟨z0, z1, z2, z3, z4⟩ := hW
    go_simp
    try with_reducible rfl
  try simp only [List.getElem_toArray, List.getElem_cons_zero, List.getElem_cons_succ, Act.put, List.setIfInBounds_toArray, List.set_cons_zero, List.set_cons_succ]
  refine wpAnyN_take (i := 9) (v := ?_) rfl (by kernel_rfl) (fun _ _ _ h => h) (by rfl) (fun W hW => ?_) hS0 ?_
  rotate_left
  · obtain ⟨z0, z1, z2, z3, z4⟩ := hW
    go_simp
    try with_reducible rfl
  try simp only [List.getElem_toArray, List.getElem_cons_zero, List.getElem_cons_succ, Act.put, List.setIfInBounds_toArray, List.set_cons_zero, List.set_cons_succ]
  refine wpAnyN_take (i := 10) (v := ?_) rfl (by kernel_rfl) (fun _ _ _ h => h) (by rfl) (fun W hW => ?_) hS0 ?_
  rotate_left
  · obtain ⟨z0, z1, z2, z3, z4⟩ := hW
    go_simp
    try with_reducible rfl
  try simp only [List.getElem_toArray, List.getElem_cons_zero, List.getElem_cons_succ, Act.put, List.setIfInBounds_toArray, List.set_cons_zero, List.set_cons_succ]
  clear hS0
  refine wpAnyN_done (by kernel_rfl) ?_ _
  by_cases hmem : r ∈ s.rs
  · have hk := P1.out.k r
    rw [if_pos hmem] at hk
    obtain rfl : true = kn := by rw [← Hkn.out, hk]; rfl
    obtain rfl : .int .i64 ((s.rs.idxOf r : Nat) : Int) = vv := by rw [← Hvv.out, hk]; rfl
    have hT := Lib.hid (show lvRule s r = (s, ((s.rs.idxOf r : Nat) : Int)) by unfold lvRule; rw [if_pos hmem])
    generalize ((s.rs.idxOf r : Nat) : Int) = v at *
    clear hk hmem
    go_wp2_with fail
    go_ret
    rw [hT.out]
    exact ⟨rfl, A, n, c, B, d, mm, P1.out, F1.out⟩
  · have hk := P1.out.k r
    rw [if_neg hmem] at hk
    obtain rfl : false = kn := by rw [← Hkn.out, hk]; rfl
    obtain ⟨dd, hdd⟩ : ∃ dd, lvDep s r = dd := ⟨_, rfl⟩
    have hT := Lib.hid (show lvRule s r = (⟨s.rs ++ [r], s.ds ++ [dd]⟩, (n : Int)) by unfold lvRule; rw [if_neg hmem, hdd, P0.out.hr])
    have HDo := Lib.hid (lvRule_do HI.out HO.out)
    have HDD := Lib.hid hdd
    have HMem := Lib.hid hmem
    obtain ⟨pb, hpb⟩ : ∃ pb, isP r = pb := ⟨_, rfl⟩
    have Hpb := Lib.hid hpb
    clear hk hmem hdd hpb
    obtain ⟨d0, d1, d2⟩ := BX1.out.three
    have bl1 := BX1.out.lt
    go_upto_if 20 with ((go_at_call 49; refine (isPair_any r pb _ Hpb.out).mono ?_; rintro e w1 ⟨rfl, hb1⟩))
    clear d0 d1 d2 bl1
    have P2 := Lib.hid (P1.out.next hb1)
    have F2 := Lib.hid (F1.out.trans (LvF.of_below hb1))
    have BX2 := Lib.hid (BX1.out.next hb1)
    clear hb1
    go_cut [7] (fun d_ wx => d_ = .int .i64 dd ∧ Below w1.heap.size w1 wx)
    case first =>
      rcases HO.out with ⟨h0, ha, hb⟩ | ⟨cc, hcc, hl, _⟩
      · obtain rfl : true = pb := by rw [← Hpb.out]; simp [isP, h0]
        have hD := HDD.out
        unfold lvDep at hD
        rw [if_pos h0] at hD
        obtain ⟨an, han⟩ : ∃ an : Nat, r.a = an := ⟨r.a.toNat, by have := ha.1; omega⟩
        obtain ⟨bn, hbn⟩ : ∃ bn : Nat, r.b = bn := ⟨r.b.toNat, by have := hb.1; omega⟩
        have la := ha.2
        have lb := hb.2
        rw [P2.out.hr, han] at la
        rw [P2.out.hr, hbn] at lb
        obtain ⟨ga, gb, hA, hB, ga1, gb1, hrd⟩ := P2.out.g.red P2.out.hr P2.out.hd (by omega)
        obtain ⟨va, _, _, _⟩ := hrd an (by omega)
        obtain ⟨vb, _, _, _⟩ := hrd bn (by omega)
        rw [han, hbn] at hD
        have loa := HI.out.lo an (by have := P2.out.hr; omega)
        have lob := HI.out.lo bn (by have := P2.out.hr; omega)
        rw [show (⟨s.rs, s.ds⟩ : LvS) = s from rfl] at va vb
        generalize lvD s an = da at *
        generalize lvD s bn = db at *
        subst hD
        obtain ⟨d0, d1, d2⟩ := BX2.out.three
        rw [han] at d1
        rw [hbn] at d2
        have x1 := P2.out.g.x.cell 1
        have xl1 := P2.out.g.x.lt
        have bl1 := BX2.out.lt
        rw [hB] at x1
        have za : (0 : Int) ≤ (an : Int) := by omega
        have zb : (0 : Int) ≤ (bn : Int) := by omega
        clear hrd ha hb
        have hup := upc w1.heap.size w1
        have m0 : 1 ≤ max da db := by omega
        have m1 : max da db ≤ 1048576 := by omega
        have u1 : IntKind.i64.wrap (max da db + 1) = max da db + 1 := IntWalk.i64_in _ (by omega)
        go_wp2_with fail
        refine wp_region_up w1.heap.size (by kernel_rfl) (by kernel_rfl) ?_
        repeat (go_big_quiet_step ((fail)))
        refine wpQuiet_nil ?_
        intro w4 hup_w4
        have hb4 := up_of hup_w4
        go_wp2_with fail
        all_goals
          go_meet
          exact ⟨by congr 1; omega, hb4⟩
      · obtain rfl : false = pb := by rw [← Hpb.out]; unfold isP; rw [hl]; rfl
        obtain rfl : 1 = dd := by rw [← HDD.out]; unfold lvDep; rw [if_neg (by rw [hl]; show ¬ (1 : Nat) = 0; omega)]
        go_wp2_with fail
        go_meet
        exact ⟨rfl, Below.refl _ _⟩
    case rest =>
      obtain ⟨rfl, hb3⟩ := hcut
      have Z3 := Lib.hid ((P2.out.z F2.out).next hb3)
      have BX3 := Lib.hid (BX2.out.next hb3)
      have HR := Lib.hid P2.out.hr
      have HDl := Lib.hid P2.out.hd
      have HK := Lib.hid P2.out.k
      have nbq := Lib.hid (show some W.heap.size ≠ (Value.slice A n c).ownBlock from fun e => by have := (P0.out.g.q.lt _ e.symm).2; omega)
      have neM := Lib.hid (show W.heap.size ≠ M by have := P0.out.m.lt; omega)
      have neX := Lib.hid (show W.heap.size ≠ X by have := P0.out.g.x.lt; omega)
      have nbk := Lib.hid (show some W.heap.size ≠ (Value.slice B n d).ownBlock from fun e => by have := (P0.out.g.k.lt _ e.symm).2; omega)
      clear P1 P2 F1 F2 BX1 BX2 P0 hb3 xl
      have zk : (n + 1) * 32 ≤ 140737488355328 := by omega
      have zk8 : (n + 1) * 8 ≤ 140737488355328 := by omega
      have zkm : n + 1 ≤ maxLen := by unfold maxLen; omega
      have x0 := Z3.out.g.x.cell 0
      have x1 := Z3.out.g.x.cell 1
      have xl := Z3.out.g.x.lt
      obtain ⟨d0, d1, d2⟩ := BX3.out.three
      have bl := BX3.out.lt
      go_wp2_with fail
      --STAGE
      have HS := Lib.hid (show ∀ W', Blk W' X 83 #[.slice A n c, .slice B n d, .map (some M)] → Blk W' W.heap.size 44 #[.string r.l, .int .i64 r.a, .int .i64 r.b] → (W'.cell? ⟨X, 0, none⟩ = some (.slice A n c) ∧ W'.cell? ⟨X, 1, none⟩ = some (.slice B n d) ∧ W'.cell? ⟨W.heap.size, 0, none⟩ = some (.string r.l) ∧ W'.cell? ⟨W.heap.size, 1, none⟩ = some (.int .i64 r.a) ∧ W'.cell? ⟨W.heap.size, 2, none⟩ = some (.int .i64 r.b)) from
        fun W' h1 h2 => ⟨h1.cell 0, h1.cell 1, h2.cell 0, h2.cell 1, h2.cell 2⟩)
      refine wp_region_N (fun _ => True) [] (by kernel_rfl) ?_
      refine wpAnyN_take (i := 1) (v := ?_) rfl (by kernel_rfl) (fun _ _ _ h => h) (by rfl) (fun W hW => ?_) trivial ?_
      rotate_left
      · go_simp
        try with_reducible rfl
      try simp only [List.getElem_toArray, List.getElem_cons_zero, List.getElem_cons_succ, Act.put, List.setIfInBounds_toArray, List.set_cons_zero, List.set_cons_succ]
      refine wpAnyN_T _ (wpAny_of_N (S := fun W' => W'.cell? ⟨X, 0, none⟩ = some (.slice A n c) ∧ W'.cell? ⟨X, 1, none⟩ = some (.slice B n d) ∧ W'.cell? ⟨W.heap.size, 0, none⟩ = some (.string r.l) ∧ W'.cell? ⟨W.heap.size, 1, none⟩ = some (.int .i64 r.a) ∧ W'.cell? ⟨W.heap.size, 2, none⟩ = some (.int .i64 r.b)) (N := [20, 21, 22, 23]) _ _ _ _ ?_)
      clear x0 x1 d0 d1 d2
      have Z0 := Lib.hid Z3.out.drew
      have X0 := Lib.hid BX3.out.drew
      generalize wc.drew = wd at *
      have hS0 := HS.out _ Z0.out.g.x X0.out
      clear Z3 BX3
      refine wpAnyN_take (i := 0) (v := ?_) rfl (by kernel_rfl) (fun _ _ _ h => h) (by rfl) (fun W hW => ?_) hS0 ?_
      rotate_left
      · obtain ⟨z0, z1, z2, z3, z4⟩ := hW
        go_simp
        try with_reducible rfl
      try simp only [List.getElem_toArray, List.getElem_cons_zero, List.getElem_cons_succ, Act.put, List.setIfInBounds_toArray, List.set_cons_zero, List.set_cons_succ]
      refine wpAnyN_take (i := 2) (v := ?_) rfl (by kernel_rfl) (fun _ _ _ h => h) (by rfl) (fun W hW => ?_) hS0 ?_
      rotate_left
      · obtain ⟨z0, z1, z2, z3, z4⟩ := hW
        go_simp
        try with_reducible rfl
      try simp only [List.getElem_toArray, List.getElem_cons_zero, List.getElem_cons_succ, Act.put, List.setIfInBounds_toArray, List.set_cons_zero, List.set_cons_succ]
      refine wpAnyN_take (i := 3) (v := ?_) rfl (by kernel_rfl) (fun _ _ _ h => h) (by rfl) (fun W hW => ?_) hS0 ?_
      rotate_left
      · obtain ⟨z0, z1, z2, z3, z4⟩ := hW
        go_simp
        try with_reducible rfl
      try simp only [List.getElem_toArray, List.getElem_cons_zero, List.getElem_cons_succ, Act.put, List.setIfInBounds_toArray, List.set_cons_zero, List.set_cons_succ]
      refine wpAnyN_take (i := 4) (v := ?_) rfl (by kernel_rfl) (fun _ _ _ h => h) (by rfl) (fun W hW => ?_) hS0 ?_
      rotate_left
      · obtain ⟨z0, z1, z2, z3, z4⟩ := hW
        go_simp
        try with_reducible rfl
      try simp only [List.getElem_toArray, List.getElem_cons_zero, List.getElem_cons_succ, Act.put, List.setIfInBounds_toArray, List.set_cons_zero, List.set_cons_succ]
      refine wpAnyN_take (i := 5) (v := ?_) rfl (by kernel_rfl) (fun _ _ _ h => h) (by rfl) (fun W hW => ?_) hS0 ?_
      rotate_left
      · obtain ⟨z0, z1, z2, z3, z4⟩ := hW
        go_simp
        try with_reducible rfl
      try simp only [List.getElem_toArray, List.getElem_cons_zero, List.getElem_cons_succ, Act.put, List.setIfInBounds_toArray, List.set_cons_zero, List.set_cons_succ]
      refine wpAnyN_take (i := 6) (v := ?_) rfl (by kernel_rfl) (fun _ _ _ h => h) (by rfl) (fun W hW => ?_) hS0 ?_
      rotate_left
      · obtain ⟨z0, z1, z2, z3, z4⟩ := hW
        go_simp
        try with_reducible rfl
      try simp only [List.getElem_toArray, List.getElem_cons_zero, List.getElem_cons_succ, Act.put, List.setIfInBounds_toArray, List.set_cons_zero, List.set_cons_succ]
      refine wpAnyN_take (i := 7) (v := ?_) rfl (by kernel_rfl) (fun _ _ _ h => h) (by rfl) (fun W hW => ?_) hS0 ?_
      rotate_left
      · obtain ⟨z0, z1, z2, z3, z4⟩ := hW
        go_simp
        try with_reducible rfl
      try simp only [List.getElem_toArray, List.getElem_cons_zero, List.getElem_cons_succ, Act.put, List.setIfInBounds_toArray, List.set_cons_zero, List.set_cons_succ]
      refine wpAnyN_take (i := 10) (v := ?_) rfl (by kernel_rfl) (fun _ _ _ h => h) (by rfl) (fun W hW => ?_) hS0 ?_
      rotate_left
      · obtain ⟨z0, z1, z2, z3, z4⟩ := hW
        go_simp
        try with_reducible rfl
      try simp only [List.getElem_toArray, List.getElem_cons_zero, List.getElem_cons_succ, Act.put, List.setIfInBounds_toArray, List.set_cons_zero, List.set_cons_succ]
      refine wpAnyN_take (i := 11) (v := ?_) rfl (by kernel_rfl) (fun _ _ _ h => h) (by rfl) (fun W hW => ?_) hS0 ?_
      rotate_left
      · obtain ⟨z0, z1, z2, z3, z4⟩ := hW
        go_simp
        try with_reducible rfl
      try simp only [List.getElem_toArray, List.getElem_cons_zero, List.getElem_cons_succ, Act.put, List.setIfInBounds_toArray, List.set_cons_zero, List.set_cons_succ]
      refine wpAnyN_take (i := 12) (v := ?_) rfl (by kernel_rfl) (fun _ _ _ h => h) (by rfl) (fun W hW => ?_) hS0 ?_
      rotate_left
      · obtain ⟨z0, z1, z2, z3, z4⟩ := hW
        go_simp
        try with_reducible rfl
      try simp only [List.getElem_toArray, List.getElem_cons_zero, List.getElem_cons_succ, Act.put, List.setIfInBounds_toArray, List.set_cons_zero, List.set_cons_succ]
      refine wpAnyN_take (i := 13) (v := ?_) rfl (by kernel_rfl) (fun _ _ _ h => h) (by rfl) (fun W hW => ?_) hS0 ?_
      rotate_left
      · obtain ⟨z0, z1, z2, z3, z4⟩ := hW
        go_simp
        try with_reducible rfl
      try simp only [List.getElem_toArray, List.getElem_cons_zero, List.getElem_cons_succ, Act.put, List.setIfInBounds_toArray, List.set_cons_zero, List.set_cons_succ]
      refine wpAnyN_take (i := 14) (v := ?_) rfl (by kernel_rfl) (fun _ _ _ h => h) (by rfl) (fun W hW => ?_) hS0 ?_
      rotate_left
      · obtain ⟨z0, z1, z2, z3, z4⟩ := hW
        go_simp
        try with_reducible rfl
      try simp only [List.getElem_toArray, List.getElem_cons_zero, List.getElem_cons_succ, Act.put, List.setIfInBounds_toArray, List.set_cons_zero, List.set_cons_succ]
      clear hS0
      refine wpAnyN_two (i := 8) (j := 15) rfl rfl (by kernel_rfl) (fun K hK => ?g1) (fun K hK => ?g2)
      case' g1 =>
        go_simp
        have Z4 := Lib.hid (Z0.out.alloc (.cells #[.string r.l, .int .i64 r.a, .int .i64 r.b] 44))
        have X4 := Lib.hid (X0.out.alloc (.cells #[.string r.l, .int .i64 r.a, .int .i64 r.b] 44))
        refine hK.out _ _ (fun _ => HS.out _ Z4.out.g.x X4.out) ?_
        clear hK K
        try simp only [List.getElem_toArray, List.getElem_cons_zero, List.getElem_cons_succ, Act.put, List.setIfInBounds_toArray, List.set_cons_zero, List.set_cons_succ]
        refine wpAnyN_two (i := 9) (j := 15) rfl rfl (by kernel_rfl) (fun K hK => ?g3) (fun K hK => ?g4)
      case' g3 =>
        refine step_pushL (by rfl) _ _ _ (by rfl) w0.heap.size 44 3 32 elem_rule Fac.cells A n c s.rs (by rfl) Z4.out.g.q _ r #[.string r.l, .int .i64 r.a, .int .i64 r.b] 44 (0, 0) (by rfl) (heap_alloc_new _ _) rfl rfl (one_fac _) (by omega) zk zkm Z4.out.g.e.size ?_
        intro A8 c8 w8 own8 hg8 old8
        have Z5 := Lib.hid (Z4.out.pushR own8 hg8 old8)
        have X5 := Lib.hid (X4.out.grown hg8 nbq.out)
        refine hK.out _ _ (fun _ => HS.out _ Z5.out.g.x X5.out) ?_
        clear hK K
        try simp only [List.getElem_toArray, List.getElem_cons_zero, List.getElem_cons_succ, Act.put, List.setIfInBounds_toArray, List.set_cons_zero, List.set_cons_succ]
        refine wpAnyN_next (i := 15) rfl (by kernel_rfl) (fun K hK => ?_)
        go_simp
        have Z6 := Lib.hid (Z5.out.alloc (.cells #[.int .i64 dd] 2))
        have X6 := Lib.hid (X5.out.alloc (.cells #[.int .i64 dd] 2))
        refine hK.out _ _ (fun _ => HS.out _ Z6.out.g.x X6.out) ?_
        clear hK K
        try simp only [List.getElem_toArray, List.getElem_cons_zero, List.getElem_cons_succ, Act.put, List.setIfInBounds_toArray, List.set_cons_zero, List.set_cons_succ]
        refine wpAnyN_next (i := 16) rfl (by kernel_rfl) (fun K hK => ?_)
        refine step_pushL (by rfl) _ _ _ (by rfl) w0.heap.size 2 1 8 elem_int intE B n d s.ds (by rfl) Z6.out.g.k _ dd #[.int .i64 dd] 2 (0, 0) (by rfl) (heap_alloc_new _ _) rfl rfl (by simp [intE, Value.oneCell']) (by omega) zk8 zkm Z6.out.g.e.size ?_
        intro A9 c9 w9 own9 hg9 old9
        have Z7 := Lib.hid (Z6.out.pushD own9 hg9 old9)
        have X7 := Lib.hid (X6.out.grown hg9 nbk.out)
        refine hK.out _ _ (fun _ => HS.out _ Z7.out.g.x X7.out) ?_
        clear hK K
        try simp only [List.getElem_toArray, List.getElem_cons_zero, List.getElem_cons_succ, Act.put, List.setIfInBounds_toArray, List.set_cons_zero, List.set_cons_succ]
        have x70 := Z7.out.g.x.cell 0
        have x71 := Z7.out.g.x.cell 1
        have x7f := Z7.out.g.x.frozen
        have x7l := Z7.out.g.x.lt
        clear own8 own9 hg8 hg9 old8 old9 Z4 Z5 Z6 X4 X5 X6
      case' g4 =>
        go_simp
        have Z5 := Lib.hid (Z4.out.alloc (.cells #[.int .i64 dd] 2))
        have X5 := Lib.hid (X4.out.alloc (.cells #[.int .i64 dd] 2))
        refine hK.out _ _ (fun _ => HS.out _ Z5.out.g.x X5.out) ?_
        clear hK K
        try simp only [List.getElem_toArray, List.getElem_cons_zero, List.getElem_cons_succ, Act.put, List.setIfInBounds_toArray, List.set_cons_zero, List.set_cons_succ]
        have nR := Lib.hid ((Blk.new wd 44 #[.string r.l, .int .i64 r.a, .int .i64 r.b]).alloc (.cells #[.int .i64 dd] 2))
        have nS := Lib.hid (show Blk ((wd.alloc (.cells #[.string r.l, .int .i64 r.a, .int .i64 r.b] 44)).alloc (.cells #[.int .i64 dd] 2)) (wd.heap.size + 1) 2 #[.int .i64 dd] by
          have h := Blk.new (wd.alloc (.cells #[.string r.l, .int .i64 r.a, .int .i64 r.b] 44)) 2 #[.int .i64 dd]
          rw [show (wd.alloc (.cells #[.string r.l, .int .i64 r.a, .int .i64 r.b] 44)).heap.size = wd.heap.size + 1 by simp] at h; exact h)
        refine wpAnyN_next (i := 9) rfl (by kernel_rfl) (fun K hK => ?_)
        refine step_pushL (by rfl) _ _ _ (by rfl) w0.heap.size 44 3 32 elem_rule Fac.cells A n c s.rs (by rfl) Z5.out.g.q _ r #[.string r.l, .int .i64 r.a, .int .i64 r.b] 44 (0, 0) (by rfl) nR.out rfl rfl (one_fac _) (by omega) zk zkm Z5.out.g.e.size ?_
        intro A8 c8 w8 own8 hg8 old8
        have nS8 := Lib.hid (nS.out.grown hg8 (own_blk_ne Z5.out.g.q nS.out (by decide)))
        have Z6 := Lib.hid (Z5.out.pushR own8 hg8 old8)
        have X6 := Lib.hid (X5.out.grown hg8 nbq.out)
        refine hK.out _ _ (fun _ => HS.out _ Z6.out.g.x X6.out) ?_
        clear hK K
        try simp only [List.getElem_toArray, List.getElem_cons_zero, List.getElem_cons_succ, Act.put, List.setIfInBounds_toArray, List.set_cons_zero, List.set_cons_succ]
        refine wpAnyN_next (i := 16) rfl (by kernel_rfl) (fun K hK => ?_)
        refine step_pushL (by rfl) _ _ _ (by rfl) w0.heap.size 2 1 8 elem_int intE B n d s.ds (by rfl) Z6.out.g.k _ dd #[.int .i64 dd] 2 (0, 0) (by rfl) nS8.out rfl rfl (by simp [intE, Value.oneCell']) (by omega) zk8 zkm Z6.out.g.e.size ?_
        intro A9 c9 w9 own9 hg9 old9
        have Z7 := Lib.hid (Z6.out.pushD own9 hg9 old9)
        have X7 := Lib.hid (X6.out.grown hg9 nbk.out)
        refine hK.out _ _ (fun _ => HS.out _ Z7.out.g.x X7.out) ?_
        clear hK K
        try simp only [List.getElem_toArray, List.getElem_cons_zero, List.getElem_cons_succ, Act.put, List.setIfInBounds_toArray, List.set_cons_zero, List.set_cons_succ]
        have x70 := Z7.out.g.x.cell 0
        have x71 := Z7.out.g.x.cell 1
        have x7f := Z7.out.g.x.frozen
        have x7l := Z7.out.g.x.lt
        clear own8 own9 hg8 hg9 old8 old9 Z4 Z5 Z6 X4 X5 X6 nR nS nS8
      case' g2 =>
        go_simp
        have Z4 := Lib.hid (Z0.out.alloc (.cells #[.int .i64 dd] 2))
        have X4 := Lib.hid (X0.out.alloc (.cells #[.int .i64 dd] 2))
        refine hK.out _ _ (fun _ => HS.out _ Z4.out.g.x X4.out) ?_
        clear hK K
        try simp only [List.getElem_toArray, List.getElem_cons_zero, List.getElem_cons_succ, Act.put, List.setIfInBounds_toArray, List.set_cons_zero, List.set_cons_succ]
        refine wpAnyN_next (i := 8) rfl (by kernel_rfl) (fun K hK => ?_)
        go_simp
        have Z5 := Lib.hid (Z4.out.alloc (.cells #[.string r.l, .int .i64 r.a, .int .i64 r.b] 44))
        have X5 := Lib.hid (X4.out.alloc (.cells #[.string r.l, .int .i64 r.a, .int .i64 r.b] 44))
        refine hK.out _ _ (fun _ => HS.out _ Z5.out.g.x X5.out) ?_
        clear hK K
        try simp only [List.getElem_toArray, List.getElem_cons_zero, List.getElem_cons_succ, Act.put, List.setIfInBounds_toArray, List.set_cons_zero, List.set_cons_succ]
        have nS := Lib.hid ((Blk.new wd 2 #[.int .i64 dd]).alloc (.cells #[.string r.l, .int .i64 r.a, .int .i64 r.b] 44))
        have nR := Lib.hid (show Blk ((wd.alloc (.cells #[.int .i64 dd] 2)).alloc (.cells #[.string r.l, .int .i64 r.a, .int .i64 r.b] 44)) (wd.heap.size + 1) 44 #[.string r.l, .int .i64 r.a, .int .i64 r.b] by
          have h := Blk.new (wd.alloc (.cells #[.int .i64 dd] 2)) 44 #[.string r.l, .int .i64 r.a, .int .i64 r.b]
          rw [show (wd.alloc (.cells #[.int .i64 dd] 2)).heap.size = wd.heap.size + 1 by simp] at h; exact h)
        refine wpAnyN_next (i := 9) rfl (by kernel_rfl) (fun K hK => ?_)
        refine step_pushL (by rfl) _ _ _ (by rfl) w0.heap.size 44 3 32 elem_rule Fac.cells A n c s.rs (by rfl) Z5.out.g.q _ r #[.string r.l, .int .i64 r.a, .int .i64 r.b] 44 (0, 0) (by rfl) nR.out rfl rfl (one_fac _) (by omega) zk zkm Z5.out.g.e.size ?_
        intro A8 c8 w8 own8 hg8 old8
        have nS8 := Lib.hid (nS.out.grown hg8 (own_blk_ne Z5.out.g.q nS.out (by decide)))
        have Z6 := Lib.hid (Z5.out.pushR own8 hg8 old8)
        have X6 := Lib.hid (X5.out.grown hg8 nbq.out)
        refine hK.out _ _ (fun _ => HS.out _ Z6.out.g.x X6.out) ?_
        clear hK K
        try simp only [List.getElem_toArray, List.getElem_cons_zero, List.getElem_cons_succ, Act.put, List.setIfInBounds_toArray, List.set_cons_zero, List.set_cons_succ]
        refine wpAnyN_next (i := 16) rfl (by kernel_rfl) (fun K hK => ?_)
        refine step_pushL (by rfl) _ _ _ (by rfl) w0.heap.size 2 1 8 elem_int intE B n d s.ds (by rfl) Z6.out.g.k _ dd #[.int .i64 dd] 2 (0, 0) (by rfl) nS8.out rfl rfl (by simp [intE, Value.oneCell']) (by omega) zk8 zkm Z6.out.g.e.size ?_
        intro A9 c9 w9 own9 hg9 old9
        have Z7 := Lib.hid (Z6.out.pushD own9 hg9 old9)
        have X7 := Lib.hid (X6.out.grown hg9 nbk.out)
        refine hK.out _ _ (fun _ => HS.out _ Z7.out.g.x X7.out) ?_
        clear hK K
        try simp only [List.getElem_toArray, List.getElem_cons_zero, List.getElem_cons_succ, Act.put, List.setIfInBounds_toArray, List.set_cons_zero, List.set_cons_succ]
        have x70 := Z7.out.g.x.cell 0
        have x71 := Z7.out.g.x.cell 1
        have x7f := Z7.out.g.x.frozen
        have x7l := Z7.out.g.x.lt
        clear own8 own9 hg8 hg9 old8 old9 Z4 Z5 Z6 X4 X5 X6 nR nS nS8
      all_goals
        refine wpAnyN_next (i := 17) rfl (by kernel_rfl) (fun K hK => ?_)
        go_simp
        refine hK.out _ _ (fun _ => HS.out _ Z7.out.g.x X7.out) ?_
        clear hK K
        try simp only [List.getElem_toArray, List.getElem_cons_zero, List.getElem_cons_succ, Act.put, List.setIfInBounds_toArray, List.set_cons_zero, List.set_cons_succ]
        refine wpAnyN_next (i := 18) rfl (by kernel_rfl) (fun K hK => ?_)
        go_simp
        refine hK.out _ _ (fun _ => HS.out _ Z7.out.g.x X7.out) ?_
        clear hK K
        try simp only [List.getElem_toArray, List.getElem_cons_zero, List.getElem_cons_succ, Act.put, List.setIfInBounds_toArray, List.set_cons_zero, List.set_cons_succ]
        refine wpAnyN_next (i := 19) rfl (by kernel_rfl) (fun K hK => ?_)
        go_simp
        refine hK.out _ _ (fun _ => HS.out _ Z7.out.g.x X7.out) ?_
        clear hK K
        try simp only [List.getElem_toArray, List.getElem_cons_zero, List.getElem_cons_succ, Act.put, List.setIfInBounds_toArray, List.set_cons_zero, List.set_cons_succ]
        refine wpAnyN_next (i := 20) rfl (by kernel_rfl) (fun K hK => ?_)
        go_simp
        refine hK.out _ _ (fun h => absurd h (by decide)) ?_
        clear hK K
        try simp only [List.getElem_toArray, List.getElem_cons_zero, List.getElem_cons_succ, Act.put, List.setIfInBounds_toArray, List.set_cons_zero, List.set_cons_succ]
        have Z8 := Lib.hid (Z7.out.set0 (.slice A8 (n + 1) c8))
        have X8 := Lib.hid (X7.out.far (p := ⟨X, 0, none⟩) neX.out (.slice A8 (n + 1) c8))
        have x80 := Z8.out.g.x.cell 0
        have x81 := Z8.out.g.x.cell 1
        have x8f := Z8.out.g.x.frozen
        have x8l := Z8.out.g.x.lt
        refine wpAnyN_next (i := 21) rfl (by kernel_rfl) (fun K hK => ?_)
        go_simp
        refine hK.out _ _ (fun h => absurd h (by decide)) ?_
        clear hK K
        try simp only [List.getElem_toArray, List.getElem_cons_zero, List.getElem_cons_succ, Act.put, List.setIfInBounds_toArray, List.set_cons_zero, List.set_cons_succ]
        refine wpAnyN_next (i := 22) rfl (by kernel_rfl) (fun K hK => ?_)
        go_simp
        refine hK.out _ _ (fun h => absurd h (by decide)) ?_
        clear hK K
        try simp only [List.getElem_toArray, List.getElem_cons_zero, List.getElem_cons_succ, Act.put, List.setIfInBounds_toArray, List.set_cons_zero, List.set_cons_succ]
        refine wpAnyN_next (i := 23) rfl (by kernel_rfl) (fun K hK => ?_)
        go_simp
        refine hK.out _ _ (fun h => absurd h (by decide)) ?_
        clear hK K
        try simp only [List.getElem_toArray, List.getElem_cons_zero, List.getElem_cons_succ, Act.put, List.setIfInBounds_toArray, List.set_cons_zero, List.set_cons_succ]
        refine wpAnyN_done (by kernel_rfl) ?_ _
        have Z9 := Lib.hid (Z8.out.set1 (.slice A9 (n + 1) c9))
        have X9 := Lib.hid (X8.out.far (p := ⟨X, 1, none⟩) neX.out (.slice A9 (n + 1) c9))
        clear Z7 Z8 X7 X8 x70 x71 x7f x7l x80 x81 x8f x8l HS
        generalize hwy : ((w9.setCell ⟨X, 0, none⟩ (.slice A8 (n + 1) c8)).setCell ⟨X, 1, none⟩ (.slice A9 (n + 1) c9)) = wy at *
        clear hwy
        go_wp2_with fail
        have um : IntKind.i64.wrap ((n : Int) + 1 - 1) = (n : Int) := by rw [IntWalk.i64_in _ (by omega)]; omega
        have um3 : IntKind.i64.wrap (n : Int) = (n : Int) := IntWalk.i64_in _ (by omega)
        have um2 : IntKind.i64.wrap (((n + 1 : Nat) : Int) - 1) = (n : Int) := by rw [IntWalk.i64_in _ (by omega)]; omega
        have HT := Lib.hid (show ∀ W', Blk W' X 83 #[.slice A8 (n + 1) c8, .slice A9 (n + 1) c9, .map (some M)] → Blk W' W.heap.size 44 #[.string r.l, .int .i64 r.a, .int .i64 r.b] → (W'.cell? ⟨X, 0, none⟩ = some (.slice A8 (n + 1) c8) ∧ W'.cell? ⟨X, 2, none⟩ = some (.map (some M)) ∧ W'.cell? ⟨W.heap.size, 0, none⟩ = some (.string r.l) ∧ W'.cell? ⟨W.heap.size, 1, none⟩ = some (.int .i64 r.a) ∧ W'.cell? ⟨W.heap.size, 2, none⟩ = some (.int .i64 r.b)) from
          fun W' h1 h2 => ⟨h1.cell 0, h1.cell 2, h2.cell 0, h2.cell 1, h2.cell 2⟩)
        refine wp_region_N (fun W' => W'.cell? ⟨X, 0, none⟩ = some (.slice A8 (n + 1) c8) ∧ W'.cell? ⟨X, 2, none⟩ = some (.map (some M)) ∧ W'.cell? ⟨W.heap.size, 0, none⟩ = some (.string r.l) ∧ W'.cell? ⟨W.heap.size, 1, none⟩ = some (.int .i64 r.a) ∧ W'.cell? ⟨W.heap.size, 2, none⟩ = some (.int .i64 r.b)) [12] (by kernel_rfl) ?_
        have Z10 := Lib.hid Z9.out.drew
        have X10 := Lib.hid X9.out.drew
        generalize wy.drew = wz at *
        have hS0 := HT.out _ Z10.out.g.x X10.out
        clear Z9 X9
        refine wpAnyN_take (i := 0) (v := ?_) rfl (by kernel_rfl) (fun _ _ _ h => h) (by rfl) (fun W hW => ?_) hS0 ?_
        rotate_left
        · obtain ⟨z0, z1, z2, z3, z4⟩ := hW
          go_simp
          try with_reducible rfl
        try simp only [List.getElem_toArray, List.getElem_cons_zero, List.getElem_cons_succ, Act.put, List.setIfInBounds_toArray, List.set_cons_zero, List.set_cons_succ]
        refine wpAnyN_take (i := 1) (v := ?_) rfl (by kernel_rfl) (fun _ _ _ h => h) (by rfl) (fun W hW => ?_) hS0 ?_
        rotate_left
        · obtain ⟨z0, z1, z2, z3, z4⟩ := hW
          go_simp
          try with_reducible rfl
        try simp only [List.getElem_toArray, List.getElem_cons_zero, List.getElem_cons_succ, Act.put, List.setIfInBounds_toArray, List.set_cons_zero, List.set_cons_succ]
        refine wpAnyN_take (i := 2) (v := ?_) rfl (by kernel_rfl) (fun _ _ _ h => h) (by rfl) (fun W hW => ?_) hS0 ?_
        rotate_left
        · obtain ⟨z0, z1, z2, z3, z4⟩ := hW
          go_simp
          try with_reducible rfl
        try simp only [List.getElem_toArray, List.getElem_cons_zero, List.getElem_cons_succ, Act.put, List.setIfInBounds_toArray, List.set_cons_zero, List.set_cons_succ]
        refine wpAnyN_take (i := 3) (v := ?_) rfl (by kernel_rfl) (fun _ _ _ h => h) (by rfl) (fun W hW => ?_) hS0 ?_
        rotate_left
        · obtain ⟨z0, z1, z2, z3, z4⟩ := hW
          go_simp
          try with_reducible rfl
        try simp only [List.getElem_toArray, List.getElem_cons_zero, List.getElem_cons_succ, Act.put, List.setIfInBounds_toArray, List.set_cons_zero, List.set_cons_succ]
        refine wpAnyN_take (i := 4) (v := ?_) rfl (by kernel_rfl) (fun _ _ _ h => h) (by rfl) (fun W hW => ?_) hS0 ?_
        rotate_left
        · obtain ⟨z0, z1, z2, z3, z4⟩ := hW
          go_simp
          try with_reducible rfl
        try simp only [List.getElem_toArray, List.getElem_cons_zero, List.getElem_cons_succ, Act.put, List.setIfInBounds_toArray, List.set_cons_zero, List.set_cons_succ]
        refine wpAnyN_take (i := 5) (v := ?_) rfl (by kernel_rfl) (fun _ _ _ h => h) (by rfl) (fun W hW => ?_) hS0 ?_
        rotate_left
        · obtain ⟨z0, z1, z2, z3, z4⟩ := hW
          go_simp
          try with_reducible rfl
        try simp only [List.getElem_toArray, List.getElem_cons_zero, List.getElem_cons_succ, Act.put, List.setIfInBounds_toArray, List.set_cons_zero, List.set_cons_succ]
        refine wpAnyN_take (i := 6) (v := ?_) rfl (by kernel_rfl) (fun _ _ _ h => h) (by rfl) (fun W hW => ?_) hS0 ?_
        rotate_left
        · obtain ⟨z0, z1, z2, z3, z4⟩ := hW
          go_simp
          try with_reducible rfl
        try simp only [List.getElem_toArray, List.getElem_cons_zero, List.getElem_cons_succ, Act.put, List.setIfInBounds_toArray, List.set_cons_zero, List.set_cons_succ]
        refine wpAnyN_take (i := 7) (v := ?_) rfl (by kernel_rfl) (fun _ _ _ h => h) (by rfl) (fun W hW => ?_) hS0 ?_
        rotate_left
        · obtain ⟨z0, z1, z2, z3, z4⟩ := hW
          go_simp
          try with_reducible rfl
        try simp only [List.getElem_toArray, List.getElem_cons_zero, List.getElem_cons_succ, Act.put, List.setIfInBounds_toArray, List.set_cons_zero, List.set_cons_succ]
        refine wpAnyN_take (i := 8) (v := ?_) rfl (by kernel_rfl) (fun _ _ _ h => h) (by rfl) (fun W hW => ?_) hS0 ?_
        rotate_left
        · obtain ⟨z0, z1, z2, z3, z4⟩ := hW
          go_simp
          try with_reducible rfl
        try simp only [List.getElem_toArray, List.getElem_cons_zero, List.getElem_cons_succ, Act.put, List.setIfInBounds_toArray, List.set_cons_zero, List.set_cons_succ]
        refine wpAnyN_take (i := 9) (v := ?_) rfl (by kernel_rfl) (fun _ _ _ h => h) (by rfl) (fun W hW => ?_) hS0 ?_
        rotate_left
        · obtain ⟨z0, z1, z2, z3, z4⟩ := hW
          go_simp
          try with_reducible rfl
        try simp only [List.getElem_toArray, List.getElem_cons_zero, List.getElem_cons_succ, Act.put, List.setIfInBounds_toArray, List.set_cons_zero, List.set_cons_succ]
        refine wpAnyN_take (i := 10) (v := ?_) rfl (by kernel_rfl) (fun _ _ _ h => h) (by rfl) (fun W hW => ?_) hS0 ?_
        rotate_left
        · obtain ⟨z0, z1, z2, z3, z4⟩ := hW
          go_simp
          try with_reducible rfl
        try simp only [List.getElem_toArray, List.getElem_cons_zero, List.getElem_cons_succ, Act.put, List.setIfInBounds_toArray, List.set_cons_zero, List.set_cons_succ]
        refine wpAnyN_take (i := 11) (v := ?_) rfl (by kernel_rfl) (fun _ _ _ h => h) (by rfl) (fun W hW => ?_) hS0 ?_
        rotate_left
        · obtain ⟨z0, z1, z2, z3, z4⟩ := hW
          go_simp
          try with_reducible rfl
        try simp only [List.getElem_toArray, List.getElem_cons_zero, List.getElem_cons_succ, Act.put, List.setIfInBounds_toArray, List.set_cons_zero, List.set_cons_succ]
        clear hS0
        refine wpAnyN_next (i := 12) rfl (by kernel_rfl) (fun K hK => ?_)
        refine step_put (w0 := w0) (by rfl) _ _ _ (by rfl) rule_key Try.underlying81 (by rfl) r (.int .i64 (n : Int)) (by rfl) (by show Value.int .i64 _ = _; exact congrArg _ (by first | omega | rw [um2] | rw [um2, um3])) Z10.out.mp w0.heap.size rfl Z10.out.hm.1 Z10.out.g.e ?_
        intro w10 hm10 hg10 hb10
        have Z11 := Lib.hid (Z10.out.put hm10 hg10 hb10)
        have X11 := Lib.hid (X10.out.grown hg10 (by intro e; injection e with e; exact neM.out e))
        refine hK.out _ _ (fun h => absurd h (by decide)) ?_
        clear hK K
        try simp only [List.getElem_toArray, List.getElem_cons_zero, List.getElem_cons_succ, Act.put, List.setIfInBounds_toArray, List.set_cons_zero, List.set_cons_succ]
        refine wpAnyN_done (by kernel_rfl) ?_ _
        clear Z10 X10 hm10 hg10 hb10 HT um um2 um3
        go_wp2_with fail
        refine wp_region_N (fun W' => W'.cell? ⟨X, 2, none⟩ = some (.map (some M)) ∧ W'.cell? ⟨W.heap.size, 0, none⟩ = some (.string r.l) ∧ W'.cell? ⟨W.heap.size, 1, none⟩ = some (.int .i64 r.a) ∧ W'.cell? ⟨W.heap.size, 2, none⟩ = some (.int .i64 r.b) ∧ (Instr.lookup 81 (.map (some M)) (.agg #[.string r.l, .int .i64 r.a, .int .i64 r.b]) false).run Try.prog W' = .ok (.int .i64 (n : Int)) W') [] (by kernel_rfl) ?_
        have Z12 := Lib.hid Z11.out.drew
        have X12 := Lib.hid X11.out.drew
        generalize w10.drew = wq at *
        have hlk : (Instr.lookup 81 (.map (some M)) (.agg #[.string r.l, .int .i64 r.a, .int .i64 r.b]) false).run Try.prog wq = .ok (.int .i64 (n : Int)) wq := by
          have := Z12.out.mp.look rule_key Try.underlying81 (zero_i64 wq) r
          rw [mget_mput, if_pos rfl] at this
          exact this
        have hS0 : wq.cell? ⟨X, 2, none⟩ = some (.map (some M)) ∧ wq.cell? ⟨W.heap.size, 0, none⟩ = some (.string r.l) ∧ wq.cell? ⟨W.heap.size, 1, none⟩ = some (.int .i64 r.a) ∧ wq.cell? ⟨W.heap.size, 2, none⟩ = some (.int .i64 r.b) ∧ (Instr.lookup 81 (.map (some M)) (.agg #[.string r.l, .int .i64 r.a, .int .i64 r.b]) false).run Try.prog wq = .ok (.int .i64 (n : Int)) wq :=
          ⟨Z12.out.g.x.cell 2, X12.out.cell 0, X12.out.cell 1, X12.out.cell 2, hlk⟩
        clear Z11 X11 hlk
        refine wpAnyN_take (i := 0) (v := ?_) rfl (by kernel_rfl) (fun _ _ _ h => h) (by rfl) (fun W hW => ?_) hS0 ?_
        rotate_left
        · obtain ⟨z0, z1, z2, z3, z4⟩ := hW
          go_simp
          try with_reducible rfl
        try simp only [List.getElem_toArray, List.getElem_cons_zero, List.getElem_cons_succ, Act.put, List.setIfInBounds_toArray, List.set_cons_zero, List.set_cons_succ]
        refine wpAnyN_take (i := 1) (v := ?_) rfl (by kernel_rfl) (fun _ _ _ h => h) (by rfl) (fun W hW => ?_) hS0 ?_
        rotate_left
        · obtain ⟨z0, z1, z2, z3, z4⟩ := hW
          go_simp
          try with_reducible rfl
        try simp only [List.getElem_toArray, List.getElem_cons_zero, List.getElem_cons_succ, Act.put, List.setIfInBounds_toArray, List.set_cons_zero, List.set_cons_succ]
        refine wpAnyN_take (i := 2) (v := ?_) rfl (by kernel_rfl) (fun _ _ _ h => h) (by rfl) (fun W hW => ?_) hS0 ?_
        rotate_left
        · obtain ⟨z0, z1, z2, z3, z4⟩ := hW
          go_simp
          try with_reducible rfl
        try simp only [List.getElem_toArray, List.getElem_cons_zero, List.getElem_cons_succ, Act.put, List.setIfInBounds_toArray, List.set_cons_zero, List.set_cons_succ]
        refine wpAnyN_take (i := 3) (v := ?_) rfl (by kernel_rfl) (fun _ _ _ h => h) (by rfl) (fun W hW => ?_) hS0 ?_
        rotate_left
        · obtain ⟨z0, z1, z2, z3, z4⟩ := hW
          go_simp
          try with_reducible rfl
        try simp only [List.getElem_toArray, List.getElem_cons_zero, List.getElem_cons_succ, Act.put, List.setIfInBounds_toArray, List.set_cons_zero, List.set_cons_succ]
        refine wpAnyN_take (i := 4) (v := ?_) rfl (by kernel_rfl) (fun _ _ _ h => h) (by rfl) (fun W hW => ?_) hS0 ?_
        rotate_left
        · obtain ⟨z0, z1, z2, z3, z4⟩ := hW
          go_simp
          try with_reducible rfl
        try simp only [List.getElem_toArray, List.getElem_cons_zero, List.getElem_cons_succ, Act.put, List.setIfInBounds_toArray, List.set_cons_zero, List.set_cons_succ]
        refine wpAnyN_take (i := 5) (v := ?_) rfl (by kernel_rfl) (fun _ _ _ h => h) (by rfl) (fun W hW => ?_) hS0 ?_
        rotate_left
        · obtain ⟨z0, z1, z2, z3, z4⟩ := hW
          go_simp
          try with_reducible rfl
        try simp only [List.getElem_toArray, List.getElem_cons_zero, List.getElem_cons_succ, Act.put, List.setIfInBounds_toArray, List.set_cons_zero, List.set_cons_succ]
        refine wpAnyN_take (i := 6) (v := ?_) rfl (by kernel_rfl) (fun _ _ _ h => h) (by rfl) (fun W hW => ?_) hS0 ?_
        rotate_left
        · obtain ⟨z0, z1, z2, z3, z4⟩ := hW
          go_simp
          try with_reducible rfl
        try simp only [List.getElem_toArray, List.getElem_cons_zero, List.getElem_cons_succ, Act.put, List.setIfInBounds_toArray, List.set_cons_zero, List.set_cons_succ]
        clear hS0
        refine wpAnyN_done (by kernel_rfl) ?_ _
        go_wp2_with fail
        go_ret
        rw [hT.out]
        refine ⟨rfl, A8, n + 1, c8, A9, c9, _, ⟨Z12.out.g.shut, Z12.out.mp, fun f => ?_, Z12.out.hm, ?_, ?_⟩, Z12.out.f⟩
        · rw [mget_mput, ← HR.out]; exact map_new HK.out HMem.out f
        · rw [List.length_append, HR.out]; rfl
        · rw [List.length_append, HDl.out]; rfl
end Go.Proofs.Ytikhjoianbndhaa
