
/-
  Slices and maps that a call makes for itself: one element more; look-up and store.
-/
import Derived.Test.YtcpofhjoblgmgaaDoorBase
import Derived.Maps.AppendAt
import Derived.MapFrom
import Derived.Carry
namespace Go.Proofs.YtcpofhjoblgmgaaDoor
open Go.RowKit Go.MapKept
open Go.ChangeMaps (setBlock)

/-- the element type of a slice type -/
def Elem (P : Program) (t e : TypeId) (sz bytes : Nat) : Prop :=
  P.underlying t = some (.slice e) ∧ ∃ i z, P.info? e = some i ∧ i.zero = some z ∧ i.size = sz ∧ i.bytes = bytes ∧ z.cells.size = sz
theorem Elem.mk' {P : Program} {t e : TypeId} {sz bytes : Nat} {z : Value} (ht : P.underlying t = some (.slice e)) (h : (P.info? e).map (fun i => (i.zero, i.size, i.bytes)) = some (some z, sz, bytes)) (hz : z.cells.size = sz) : Elem P t e sz bytes := by
  obtain ⟨i, hi, h0, h1, h2⟩ := info_parts h
  exact ⟨ht, i, z, hi, h0, h1, h2, hz⟩

section
variable {α : Type} {P : Program} {w0 w : World} {ops : Array Oper} {rest : List Oper} {o : Oper} {a : Act} {Q : Exit → Act → World → Prop}
/-- one element more at the end of a slice of the call's own -/
theorem wpList_push (hgd : o.guard = none) (s x : Operand) (t : TypeId) (ho : o.op = .call { callee := .builtin .append, args := #[s, x], argTypes := #[t, t] })
    (base : Nat) (e : TypeId) (sz bytes : Nat) (EI : Elem P t e sz bytes) (enc : α → List Value) (A : Option Addr) (n c : Nat) (xs : List α) (hs : a.eval s = .slice A n c)
    (hown : w.ownsRow base e sz (.slice A n c) n (xs.flatMap enc)) (g : Nat) (y : α) (cs : Array Value) (t' : TypeId) (fr : Nat × Nat) (hx : a.eval x = .slice (some ⟨g, 0, none⟩) 1 1) (hg : w.heap[g]? = some (.cells cs t' fr)) (hcs : cs.toList = enc y)
    (hlen : (enc y).length = sz) (hone : ∀ u ∈ enc y, u.oneCell' = true) (hsz : 0 < sz) (hbytes : (n + 1) * bytes ≤ 140737488355328) (hm : n + 1 ≤ maxLen) (hbase : base = w0.heap.size) (hb : Below base w0 w)
    (h : ∀ A' c' w', w'.ownsRow base e sz (.slice A' (n + 1) c') (n + 1) ((xs ++ [y]).flatMap enc) → w.grownBy w' (Value.slice A n c).ownBlock →
      ((Value.slice A' (n + 1) c').ownBlock = (Value.slice A n c).ownBlock ∨ (Value.slice A' (n + 1) c').ownBlock = some w.heap.size) → Below base w0 w' → wpList P ops Q rest (a.put o.dst (.slice A' (n + 1) c')) w') : wpList P ops Q (o :: rest) a w := by
  obtain ⟨ht, i, z, hi, hz, h1, h2, hzs⟩ := EI
  have hsize : base ≤ w.heap.size := by rw [hbase]; exact hb.size
  have hnews : ∀ j u, (enc y)[j]? = some u → w.cell? ((⟨g, 0, none⟩ : Addr).add j) = some u := by rw [← hcs]; exact World.news_of_block hg
  refine wpList_plain hgd fun _ hK => ?_
  obtain ⟨v', w', hr, r2, r3, _, r5⟩ := run_append_own_at (P := P) w base t o.type e i z sz bytes ht hi hz h1 h2 hzs hsz _ n _ hown ⟨g, 0, none⟩ 1 1 (enc y) (by rw [hlen]; omega) hnews hone hm hbytes hsize
  obtain ⟨g', cap, rfl, _, _⟩ := r2.form (by omega)
  unfold Oper.wp execOp
  simp only [ho, resolve, invoke, builtin, Sem.run_bind, Sem.run_pure, Result.andThen_ok, List.map_toArray, List.map_cons, List.map_nil, hs, hx, hr]
  refine hK _ _ (h _ _ w' (by rw [List.flatMap_append]; simpa using r2) r3 r5 (hb.grown r3 hsize fun k hk => ?_))
  exact (hown.lt k hk).1
end

theorem own_next {w w' : World} {base : Nat} {e : TypeId} {sz n : Nat} {v : Value} {xs : List Value} (h : w.ownsRow base e sz v n xs) (hb : Below w.heap.size w w') : w'.ownsRow base e sz v n xs := by
  refine ⟨h.1, ?_⟩
  rcases h.2 with hn | ⟨g, cap, cur, rfl, hg, hh, r⟩
  · exact .inl hn
  · exact .inr ⟨g, cap, cur, rfl, hg, (hb.block g (Array.getElem?_eq_some_iff.1 hh).1).trans hh, r⟩

/-- a slice with a code -/
def RetNewC {α : Type} (w0 : World) (E : TypeId) (sz : Nat) (enc : α → List Value) (xs : List α) (code : Int) (e : Ending) (w' : World) : Prop :=
  ∃ A c, e = .returned (.tuple #[.slice A xs.length c, .int .i64 code]) ∧ w'.ownsRow w0.heap.size E sz (.slice A xs.length c) xs.length (xs.flatMap enc) ∧ Below w0.heap.size w0 w'
theorem ret_sliceC {A : Option Addr} {n m c : Nat} {k : Int} (h : n = m) : Ending.returned (.tuple #[.slice A n c, .int .i64 k]) = .returned (.tuple #[.slice A m c, .int .i64 k]) := by rw [h]
/-- what lies below is not touched by what writes a row that was made later -/
theorem own_apart {w1 w w' : World} {b1 e1 s1 n1 e2 s2 n2 : Nat} {v1 v2 : Value} {xs1 xs2 : List Value} (h0 : w1.ownsRow b1 e1 s1 v1 n1 xs1) (h1 : w.ownsRow b1 e1 s1 v1 n1 xs1)
    (h2 : w.ownsRow w1.heap.size e2 s2 v2 n2 xs2) (hg : w.grownBy w' v2.ownBlock) : w'.ownsRow b1 e1 s1 v1 n1 xs1 := by
  refine h1.kept hg ?_
  cases hv : v1.ownBlock with
  | none => exact .inl rfl
  | some k =>
    refine .inr fun e => ?_
    have := (h0.lt k hv).2
    have := (h2.lt k e.symm).1
    omega

/-- rows of other element types lie elsewhere -/
theorem own_blk_ne {w : World} {base g : Nat} {e t : TypeId} {size n : Nat} {v : Value} {xs : List Value} {cs : Array Value} (h : w.ownsRow base e size v n xs) (hg : Blk w g t cs) (hne : e ≠ t) : some g ≠ v.ownBlock := by
  rcases h.2 with ⟨rfl, _⟩ | ⟨g', cap, cur, rfl, _, hh, _⟩
  · simp [Value.ownBlock]
  · intro he
    have : g = g' := by simpa [Value.ownBlock] using he
    subst this
    unfold Blk at hg
    rw [hg] at hh
    injection hh with hh
    injection hh with _ ht
    exact hne ht.symm

/-! ### maps -/
/-- where a key stands, and what it holds -/
def midx {α : Type} [DecidableEq α] (a : α) : List (α × Value) → Nat → Option (Nat × Value)
  | [], _ => none
  | p :: r, i => if a = p.1 then some (i, p.2) else midx a r (i + 1)
def mget {α : Type} [DecidableEq α] (a : α) (m : List (α × Value)) : Option Value := (midx a m 0).map (·.2)
def mput {α : Type} [DecidableEq α] (a : α) (v : Value) (m : List (α × Value)) : List (α × Value) :=
  match midx a m 0 with
  | some (i, _) => m.modify i (fun _ => (a, v))
  | none => m ++ [(a, v)]

section
variable {α : Type} [DecidableEq α]
theorem midx_cons (a : α) (p : α × Value) (r : List (α × Value)) (i : Nat) : midx a (p :: r) i = if a = p.1 then some (i, p.2) else midx a r (i + 1) := rfl
theorem midx_shift (a : α) : ∀ (m : List (α × Value)) (i : Nat), midx a m i = (midx a m 0).map fun p => (p.1 + i, p.2)
  | [], _ => rfl
  | p :: r, i => by
    rw [midx_cons, midx_cons]
    split
    · simp
    · rw [midx_shift a r (i + 1), midx_shift a r (0 + 1)]
      cases midx a r 0 <;> simp; omega
theorem mget_cons (a : α) (p : α × Value) (m : List (α × Value)) : mget a (p :: m) = if a = p.1 then some p.2 else mget a m := by
  show (midx a (p :: m) 0).map (·.2) = if a = p.1 then some p.2 else (midx a m 0).map (·.2)
  rw [midx_cons]
  split
  · rfl
  · rw [midx_shift a m (0 + 1)]; cases midx a m 0 <;> rfl
theorem mput_cons (a : α) (v : Value) (p : α × Value) (m : List (α × Value)) : mput a v (p :: m) = if a = p.1 then (a, v) :: m else p :: mput a v m := by
  have e : ∀ m' : List (α × Value), mput a v m' = match midx a m' 0 with | some (i, _) => m'.modify i (fun _ => (a, v)) | none => m' ++ [(a, v)] := fun _ => rfl
  rw [e, e m, midx_cons]
  by_cases h : a = p.1
  · rw [if_pos h, if_pos h]; rfl
  · rw [if_neg h, if_neg h, midx_shift a m (0 + 1)]
    cases midx a m 0 <;> rfl
theorem mget_mput (a c : α) (v : Value) : ∀ m : List (α × Value), mget c (mput a v m) = if c = a then some v else mget c m
  | [] => by
    show mget c [(a, v)] = _
    rw [mget_cons]
  | p :: m => by
    rw [mput_cons]
    by_cases h : a = p.1
    · rw [if_pos h, mget_cons, mget_cons]
      by_cases h2 : c = a
      · simp [h2]
      · rw [if_neg h2, if_neg h2, if_neg (by rw [← h]; exact h2)]
    · rw [if_neg h, mget_cons, mget_cons, mget_mput a c v m]
      by_cases h2 : c = p.1
      · rw [if_pos h2, if_pos h2]
        by_cases h3 : c = a
        · exact absurd (h3.symm.trans h2) h
        · rw [if_neg h3]
      · rw [if_neg h2, if_neg h2]

/-- what the model asks of a key's type -/
structure KeyOk (P : Program) (kt : TypeId) (K : α → Value) : Prop where
  check : ∀ (e : Bool) (a : α) (w : World), (Instr.checkKey e 10000 kt (K a)).run P w = .ok () w
  find : ∀ (a : α) (m : List (α × Value)) (es : List MapEntry) (w : World), es.map (fun e => (e.key, e.val)) = m.map (fun p => (K p.1, p.2)) → (Instr.findKey kt (K a) es).run P w = .ok (midx a m 0) w
  stays : ∀ (a : α) (w : World), (Instr.keyThatStays (K a) (K a)).run P w = .ok (K a) w

end

section
variable {α : Type}
/-- block b is a map that holds m -/
def MapIs (w : World) (b : Nat) (K : α → Value) (m : List (α × Value)) : Prop :=
  ∃ es clock, w.heap[b]? = some (.map es clock) ∧ es.toList.map (fun e => (e.key, e.val)) = m.map (fun p => (K p.1, p.2))

variable {w w' : World} {b : Nat} {K : α → Value} {m : List (α × Value)}
theorem MapIs.lt (h : MapIs w b K m) : b < w.heap.size := by obtain ⟨es, clock, hb, _⟩ := h; exact (Array.getElem?_eq_some_iff.1 hb).1
theorem MapIs.keep (h : MapIs w b K m) (hb : w'.heap[b]? = w.heap[b]?) : MapIs w' b K m := by obtain ⟨es, clock, h1, h2⟩ := h; exact ⟨es, clock, hb.trans h1, h2⟩
theorem MapIs.next (h : MapIs w b K m) (hb : Below w.heap.size w w') : MapIs w' b K m := h.keep (hb.block b h.lt)
theorem MapIs.alloc (h : MapIs w b K m) (o : Obj) : MapIs (w.alloc o) b K m := h.keep (Below.heap_alloc w o b h.lt)
theorem MapIs.drew (h : MapIs w b K m) : MapIs w.drew b K m := h
theorem MapIs.grown {row : Option Nat} (h : MapIs w b K m) (hg : w.grownBy w' row) (hne : some b ≠ row) : MapIs w' b K m := h.keep (hg.block b h.lt hne)
theorem MapIs.far (h : MapIs w b K m) {p : Addr} (hp : b ≠ p.block) (u : Value) : MapIs (w.setCell p u) b K m := h.keep (Below.heap_setCell w p u b hp)
theorem MapIs.made (w : World) (K : α → Value) : MapIs (w.alloc (.map #[] 0)) w.heap.size K [] := ⟨#[], 0, (MapKept.heap_alloc w _).1, rfl⟩
/-- a map's block is no slice's block -/
theorem MapIs.ne_own (h : MapIs w b K m) {base : Nat} {e : TypeId} {sz n : Nat} {v : Value} {xs : List Value} (ho : w.ownsRow base e sz v n xs) : some b ≠ v.ownBlock := by
  obtain ⟨es, clock, hb, _⟩ := h
  rcases ho.2 with ⟨rfl, _⟩ | ⟨g, cap, cur, rfl, _, hh, _⟩
  · simp [Value.ownBlock]
  · intro he
    have : b = g := by simpa [Value.ownBlock] using he
    subst this
    rw [hb] at hh; cases hh

end

section
variable {α : Type} [DecidableEq α] {P : Program} {w w' : World} {b : Nat} {K : α → Value} {m : List (α × Value)} {kt t e : TypeId}
theorem MapIs.look (h : MapIs w b K m) (KO : KeyOk P kt K) (ht : P.underlying t = some (.map kt e)) {z : Value} (hz : (zeroValue e).run P w = .ok z w) (a : α) :
    (Instr.lookup t (.map (some b)) (K a) false).run P w = .ok ((mget a m).getD z) w := by
  obtain ⟨es, clock, hb, he⟩ := h
  simp only [Instr.lookup]
  have hf := KO.find a m es.toList w he
  have hc := KO.check es.isEmpty a w
  cases hi : midx a m 0 with
  | none =>
    rw [hi] at hf
    simp [run_underlying ht, MapKept.run_getObj_map hb, hc, hf, hz, Result.andThen, mget, hi]
  | some p =>
    rw [hi] at hf
    simp [run_underlying ht, MapKept.run_getObj_map hb, hc, hf, Result.andThen, mget, hi]
theorem MapIs.lookOk (h : MapIs w b K m) (KO : KeyOk P kt K) (ht : P.underlying t = some (.map kt e)) {z : Value} (hz : (zeroValue e).run P w = .ok z w) (a : α) :
    (Instr.lookup t (.map (some b)) (K a) true).run P w = .ok (.tuple #[(mget a m).getD z, .bool (mget a m).isSome]) w := by
  obtain ⟨es, clock, hb, he⟩ := h
  simp only [Instr.lookup]
  have hf := KO.find a m es.toList w he
  have hc := KO.check es.isEmpty a w
  cases hi : midx a m 0 with
  | none =>
    rw [hi] at hf
    simp [run_underlying ht, MapKept.run_getObj_map hb, hc, hf, hz, Result.andThen, mget, hi]
  | some p =>
    rw [hi] at hf
    simp [run_underlying ht, MapKept.run_getObj_map hb, hc, hf, Result.andThen, mget, hi]
theorem modify_map {β γ : Type} (f : β → γ) (g : β → β) (g' : γ → γ) : ∀ (l : List β) (i : Nat), (∀ x, l[i]? = some x → f (g x) = g' (f x)) → (l.modify i g).map f = (l.map f).modify i g'
  | [], i, _ => by simp
  | x :: l, 0, h => by simp [h x rfl]
  | x :: l, i + 1, h => by
    rw [List.modify_succ_cons, List.map_cons, List.map_cons, List.modify_succ_cons, modify_map f g g' l i (fun y hy => h y (by simpa using hy))]
theorem midx_at (a : α) : ∀ (m : List (α × Value)) (i : Nat) (v : Value), midx a m 0 = some (i, v) → m[i]? = some (a, v)
  | [], i, v, h => by cases h
  | p :: r, i, v, h => by
    rw [midx_cons] at h
    split at h
    · rename_i h1
      simp at h
      obtain ⟨rfl, rfl⟩ := h
      rw [h1]; rfl
    · rw [midx_shift a r (0 + 1)] at h
      cases hq : midx a r 0 with
      | none => rw [hq] at h; cases h
      | some q =>
        obtain ⟨i', v'⟩ := q
        rw [hq] at h
        simp at h
        obtain ⟨rfl, rfl⟩ := h
        simpa using midx_at a r i' v' hq

/-- behind a store the map holds one entry more; nothing else has turned -/
theorem MapIs.put (h : MapIs w b K m) (KO : KeyOk P kt K) (ht : P.underlying t = some (.map kt e)) (a : α) (v : Value) :
    ∃ w', (Instr.mapUpdate t (.map (some b)) (K a) v).run P w = .ok () w' ∧ MapIs w' b K (mput a v m) ∧ w.grownBy w' (some b) ∧ w'.heap.size = w.heap.size := by
  obtain ⟨es, clock, hb, he⟩ := h
  have hlt := (Array.getElem?_eq_some_iff.1 hb).1
  have hf := KO.find a m es.toList w he
  have hc := KO.check false a w
  have hset : ∀ (es' : Array MapEntry) (cl : Nat), MapIs (setBlock w b (.map es' cl)) b K (mput a v m) ↔ es'.toList.map (fun e => (e.key, e.val)) = (mput a v m).map (fun p => (K p.1, p.2)) := by
    intro es' cl
    have hh : (setBlock w b (.map es' cl)).heap[b]? = some (.map es' cl) := by simp [setBlock, hlt]
    constructor
    · rintro ⟨es2, cl2, h1, h2⟩
      rw [hh] at h1
      cases h1
      exact h2
    · exact fun h2 => ⟨es', cl, hh, h2⟩
  have hg : ∀ o : Obj, w.grownBy (setBlock w b o) (some b) := fun o => ⟨rfl, rfl, rfl, by simp [setBlock], fun k hk hne => by
    simp only [setBlock]
    rw [Array.getElem?_setIfInBounds_ne (by intro e; exact hne (by rw [e]))]⟩
  have hsz : ∀ o : Obj, (setBlock w b o).heap.size = w.heap.size := fun o => by simp [setBlock]
  cases hi : midx a m 0 with
  | none =>
    rw [hi] at hf
    refine ⟨_, by simp [Instr.mapUpdate, run_underlying ht, MapKept.run_getObj_map hb, hc, hf, MapKept.run_setObj_map _ hb, Result.andThen]; rfl, ?_, hg _, hsz _⟩
    refine (hset _ _).2 ?_
    simp [mput, hi, he]
  | some q =>
    obtain ⟨i, v0⟩ := q
    rw [hi] at hf
    have hm := midx_at a m i v0 hi
    have hk : ∃ e0, es[i]? = some e0 ∧ e0.key = K a := by
      have h1 : (es.toList.map (fun e => (e.key, e.val)))[i]? = some (K a, v0) := by rw [he]; simp [hm]
      simp at h1
      obtain ⟨e0, h2, h3, _⟩ := h1
      exact ⟨e0, h2, h3⟩
    obtain ⟨e0, h2, h3⟩ := hk
    refine ⟨_, by simp [Instr.mapUpdate, run_underlying ht, MapKept.run_getObj_map hb, hc, hf, h2, h3, KO.stays a w, MapKept.run_setObj_map _ hb, Result.andThen]; rfl, ?_, hg _, hsz _⟩
    refine (hset _ _).2 ?_
    simp only [mput, hi]
    rw [Array.toList_modify, modify_map (fun e : MapEntry => (e.key, e.val)) _ (fun _ => (K a, v)) _ _ (fun _ _ => rfl), he,
      modify_map (fun p : α × Value => (K p.1, p.2)) (fun _ => (a, v)) (fun _ => (K a, v)) _ _ (fun _ _ => rfl)]
end

section
variable {α : Type} [DecidableEq α] {P : Program} {w0 w : World} {ops : Array Oper} {rest : List Oper} {o : Oper} {a : Act} {Q : Exit → Act → World → Prop} {b : Nat} {K : α → Value} {m : List (α × Value)} {kt t e : TypeId}
/-- a store into a map of the call's own, at the operation -/
theorem wpList_put (hgd : o.guard = none) (s k x : Operand) (ho : o.op = .mapUpdate t s k x) (KO : KeyOk P kt K) (ht : P.underlying t = some (.map kt e)) (hs : a.eval s = .map (some b)) (y : α) (v : Value) (hk : a.eval k = K y) (hx : a.eval x = v)
    (h : MapIs w b K m) (base : Nat) (hbase : base = w0.heap.size) (hbb : base ≤ b) (hb : Below base w0 w)
    (hK : ∀ w', MapIs w' b K (mput y v m) → w.grownBy w' (some b) → Below base w0 w' → wpList P ops Q rest (a.put o.dst undef) w') : wpList P ops Q (o :: rest) a w := by
  refine wpList_plain hgd fun _ hK' => ?_
  obtain ⟨w', hr, r1, r2, r3⟩ := h.put (P := P) KO ht y v
  unfold Oper.wp execOp
  simp only [ho, hs, hk, hx, Sem.run_bind, hr, Result.andThen_ok, Sem.run_pure]
  exact hK' _ _ (hK w' r1 r2 (hb.grown r2 (by rw [hbase]; exact hb.size) (fun k hk => by cases hk; exact hbb)))
end

def strK (s : ByteArray) : Value := .string s
theorem str_ok {P : Program} {kt : TypeId} (hk : P.underlying kt = some .string) : KeyOk P kt strK := by
  refine ⟨fun e a w => ?_, fun a m es w he => ?_, fun a w => ?_⟩
  · exact run_checkKey hk (by simp [IsKey, strK]) e 9999
  · have key : ∀ (m : List (ByteArray × Value)) (es : List MapEntry) (i : Nat), es.map (fun e => (e.key, e.val)) = m.map (fun p => (strK p.1, p.2)) → Instr.findNow .string (.string a) es i = some (midx a m i) := by
      intro m
      induction m with
      | nil => intro es i he; cases es with | nil => rfl | cons _ _ => simp at he
      | cons p r ih =>
        intro es i he
        cases es with
        | nil => simp at he
        | cons e es =>
          simp at he
          obtain ⟨⟨h1, h2⟩, h3⟩ := he
          unfold Instr.findNow
          rw [h1]
          simp only [strK, Instr.sameNow]
          rw [midx_cons]
          by_cases hap : a = p.1
          · have : (a == p.1) = true := by rw [beq_toListBytes, tl_beq]; simpa using hap
            rw [this, if_pos hap, h2]
          · have : (a == p.1) = false := by rw [beq_toListBytes, tl_beq]; simpa using hap
            rw [this, if_neg hap]
            exact ih es (i + 1) h3
    simp only [Instr.findKey]
    simp [run_underlying hk, strK, key m es 0 he]
  · have : Instr.sameBits 10000 (strK a) (strK a) = true := by
      unfold strK Instr.sameBits
      rw [beq_toListBytes, tl_beq]; simp
    simp [Instr.keyThatStays, this]
end Go.Proofs.YtcpofhjoblgmgaaDoor
