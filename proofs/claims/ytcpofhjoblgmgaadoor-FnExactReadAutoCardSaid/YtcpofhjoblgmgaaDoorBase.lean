
/-
  Words for memory that all proofs of this seat share: worlds above a world, slices that read as lists, blocks known whole.
-/
import Derived.Test.YtcpofhjoblgmgaaDoorRows
import Derived.WalkKit
import Derived.WalkSpells
import Derived.WalkLawsBesides
import Derived.Lib.Hide
import Derived.BigQuiet
import Derived.Deep.Draws
import Derived.Deep.AppendLies
import Derived.Deep.Onto
namespace Go.Proofs.YtcpofhjoblgmgaaDoor
open Go.RowKit

/-- A world above 'w': below block B nothing has turned. -/
structure Up (B : Nat) (w : World) where
  w' : World
  h : Below B w w'
instance (B : Nat) (w : World) : Nonempty (Up B w) := ⟨⟨w, Below.refl B w⟩⟩
theorem Up.cell {B : Nat} {w : World} (x : Up B w) (p : Addr) (h : p.block < B) : x.w'.cell? p = w.cell? p := x.h.cell h
theorem Up.frozen {B : Nat} {w : World} (x : Up B w) (p : Addr) (h : p.block < B) : x.w'.frozen? p = w.frozen? p := x.h.frozen h

theorem up_of {B : Nat} {w w' : World} (h : ∃ x : Up B w, w' = x.w') : Below B w w' := by obtain ⟨x, rfl⟩ := h; exact x.h
theorem upc (B : Nat) (w : World) : ∀ (x : Up B w) (b o : Nat), b < B → x.w'.cell? ⟨b, o, none⟩ = w.cell? ⟨b, o, none⟩ := fun x _ _ h => x.h.cell h

/-- A region that draws its order; its operations read old memory, its callees leave old memory alone: one walk. -/
theorem wp_region_up {P : Program} {id : Nat} {Q : Exit → Act → World → Prop} {a : Act} {w : World} {l : List Oper} (B : Nat) (hm : P.follows .mixedOrders = true) (hB : Region.lexB .any l.toArray = true)
    (h : wpQuiet P l.toArray (fun w' => ∃ x : Up B w, w' = x.w') (fun a' => ∀ w', (∃ x : Up B w, w' = x.w') → Q .normal a' w') l a) : (Code.region id l.toArray true).wp P Q a w :=
  wp_region_quiet (C := fun w' => ∃ x : Up B w, w' = x.w') hm hB ⟨⟨_, (Below.refl B w).drew⟩, rfl⟩ (by simpa using h)

/-- A callee's contract, met in a world above. -/
theorem Calls.up {P : Program} {f : FuncId} {args : Array Value} {B : Nat} {w : World} {x : Up B w} {v : Value} (hB : B ≤ w.heap.size)
    (h : Calls P f args x.w' fun e w' => e = .returned v ∧ Below x.w'.heap.size x.w' w') : Calls P f args x.w' fun e w'' => e = .returned v ∧ ∃ y : Up B w, w'' = y.w' :=
  h.mono fun _ w' ⟨he, hb⟩ => ⟨he, ⟨w', x.h.trans (hb.mono (Nat.le_trans hB x.h.size))⟩, rfl⟩

/-- What a call leaves that hands back 'v' and turns nothing that was there. -/
def Ret (v : Value) (w : World) (e : Ending) (w' : World) : Prop := e = .returned v ∧ Below w.heap.size w w'

theorem Calls.upR {P : Program} {f : FuncId} {args : Array Value} {B : Nat} {w : World} {x : Up B w} {v : Value} (hB : B ≤ w.heap.size) (h : Calls P f args x.w' (Ret v x.w')) : Calls P f args x.w' fun e w'' => e = .returned v ∧ ∃ y : Up B w, w'' = y.w' := Calls.up hB h
/-- 'n' elements of 'sz' cells each, from the address on, hold the list 'xs' (each element's cells by 'enc'); all below block B. -/
def Rd {α : Type} (w : World) (B : Nat) (A : Option Addr) (n sz : Nat) (enc : α → List Value) (xs : List α) : Prop :=
  xs.length = n ∧ (0 < n → ∃ b o, A = some ⟨b, o, none⟩ ∧ b < B ∧ ∀ k x, xs[k]? = some x → ∀ j v, (enc x)[j]? = some v → w.cell? ⟨b, o + k * sz + j, none⟩ = some v)

section
variable {α : Type} {w w' : World} {B B' n sz : Nat} {A : Option Addr} {enc : α → List Value} {xs : List α}
theorem Rd.len (h : Rd w B A n sz enc xs) : xs.length = n := h.1
theorem Rd.at_ {k : Nat} (h : Rd w B A n sz enc xs) (hk : k < n) : ∃ b o, A = some ⟨b, o, none⟩ ∧ b < B ∧ ∃ x, xs[k]? = some x ∧ ∀ j v, (enc x)[j]? = some v → w.cell? ⟨b, o + k * sz + j, none⟩ = some v := by
  obtain ⟨b, o, hA, hb, hc⟩ := h.2 (by omega)
  have hl : k < xs.length := by have := h.1; omega
  exact ⟨b, o, hA, hb, xs[k], List.getElem?_eq_getElem hl, hc k _ (List.getElem?_eq_getElem hl)⟩
theorem Rd.keep (h : Rd w B A n sz enc xs) (hk : ∀ p : Addr, p.block < B → w'.cell? p = w.cell? p) : Rd w' B A n sz enc xs :=
  ⟨h.1, fun hn => by
    obtain ⟨b, o, e, hb, hc⟩ := h.2 hn
    exact ⟨b, o, e, hb, fun k x hx j v hv => (hk _ hb).trans (hc k x hx j v hv)⟩⟩
theorem Rd.more (h : Rd w B A n sz enc xs) (hB : B ≤ B') : Rd w B' A n sz enc xs :=
  ⟨h.1, fun hn => by
    obtain ⟨b, o, e, hb, hc⟩ := h.2 hn
    exact ⟨b, o, e, by omega, hc⟩⟩
theorem Rd.below (h : Rd w B A n sz enc xs) (hb : Below B w w') : Rd w' B A n sz enc xs := h.keep fun _ hp => hb.cell hp
theorem Rd.none_ : Rd w B A 0 sz enc [] := ⟨rfl, fun h => absurd h (by omega)⟩
/-- behind a call that turned nothing old -/
theorem Rd.next (h : Rd w w.heap.size A n sz enc xs) (hb : Below w.heap.size w w') : Rd w' w'.heap.size A n sz enc xs := (h.below hb).more hb.size
theorem Rd.next' (h : Rd w B A n sz enc xs) (hB : B ≤ w.heap.size) (hb : Below w.heap.size w w') : Rd w' B A n sz enc xs := h.below (hb.mono hB)
end

/-- A string and two numbers: a Rule or a Factor. -/
structure Fac where
  l : ByteArray
  a : Int
  b : Int
  deriving Inhabited, DecidableEq
def Fac.cells (f : Fac) : List Value := [.string f.l, .int .i64 f.a, .int .i64 f.b]
abbrev Fac.val (f : Fac) : Value := .agg #[.string f.l, .int .i64 f.a, .int .i64 f.b]

theorem Rd.fac {w : World} {B n : Nat} {A : Option Addr} {xs : List Fac} {k : Nat} (h : Rd w B A n 3 Fac.cells xs) (hk : k < n) :
    ∃ b o x, A = some ⟨b, o, none⟩ ∧ b < B ∧ xs[k]? = some x ∧ w.cell? ⟨b, o + k * 3, none⟩ = some (.string x.l) ∧ w.cell? ⟨b, o + k * 3 + 1, none⟩ = some (.int .i64 x.a) ∧ w.cell? ⟨b, o + k * 3 + 2, none⟩ = some (.int .i64 x.b) := by
  obtain ⟨b, o, hA, hb, x, hx, hc⟩ := h.at_ hk
  exact ⟨b, o, x, hA, hb, hx, hc 0 _ rfl, hc 1 _ rfl, hc 2 _ rfl⟩
theorem Rd.str {w : World} {B n : Nat} {A : Option Addr} {xs : List ByteArray} {k : Nat} (h : Rd w B A n 1 (fun s => [.string s]) xs) (hk : k < n) :
    ∃ b o x, A = some ⟨b, o, none⟩ ∧ b < B ∧ xs[k]? = some x ∧ w.cell? ⟨b, o + k, none⟩ = some (.string x) := by
  obtain ⟨b, o, hA, hb, x, hx, hc⟩ := h.at_ hk
  exact ⟨b, o, x, hA, hb, hx, by simpa using hc 0 _ rfl⟩
theorem Rd.int {w : World} {B n : Nat} {A : Option Addr} {xs : List Int} {k : Nat} (h : Rd w B A n 1 (fun s => [.int .i64 s]) xs) (hk : k < n) :
    ∃ b o x, A = some ⟨b, o, none⟩ ∧ b < B ∧ xs[k]? = some x ∧ w.cell? ⟨b, o + k, none⟩ = some (.int .i64 x) := by
  obtain ⟨b, o, hA, hb, x, hx, hc⟩ := h.at_ hk
  exact ⟨b, o, x, hA, hb, hx, by simpa using hc 0 _ rfl⟩

/-- A block known whole. -/
def Blk (w : World) (g : Nat) (t : TypeId) (cs : Array Value) : Prop := w.heap[g]? = some (.cells cs t (0, 0))
section
variable {w w' : World} {g : Nat} {t : TypeId} {cs : Array Value}
theorem Blk.lt (h : Blk w g t cs) : g < w.heap.size := by
  rcases Nat.lt_or_ge g w.heap.size with hlt | hge
  · exact hlt
  · unfold Blk at h; rw [Array.getElem?_eq_none hge] at h; cases h
theorem Blk.cell (h : Blk w g t cs) (i : Nat) : w.cell? ⟨g, i, none⟩ = cs[i]? := cell_of_row w g i cs t (0, 0) h
theorem Blk.frozen (h : Blk w g t cs) (i : Nat) : w.frozen? ⟨g, i, none⟩ = false := by
  unfold Blk at h
  simp [World.frozen?, h]
theorem Blk.new (w : World) (t : TypeId) (cs : Array Value) : Blk (w.alloc (.cells cs t)) w.heap.size t cs := heap_alloc_new w _
theorem Blk.three {x y z : Value} (h : Blk w g t #[x, y, z]) : w.cell? ⟨g, 0, none⟩ = some x ∧ w.cell? ⟨g, 1, none⟩ = some y ∧ w.cell? ⟨g, 2, none⟩ = some z := ⟨h.cell 0, h.cell 1, h.cell 2⟩
theorem Blk.drew (h : Blk w g t cs) : Blk w.drew g t cs := h
theorem Blk.alloc (h : Blk w g t cs) (o : Obj) : Blk (w.alloc o) g t cs := (Below.heap_alloc w o g h.lt).trans h
theorem Blk.set_ (h : Blk w g t cs) (i : Nat) (u : Value) : Blk (w.setCell ⟨g, i, none⟩ u) g t (cs.setIfInBounds i u) := by
  unfold Blk at h ⊢
  simp [World.setCell, Array.getElem?_modify, h]
theorem Blk.far (h : Blk w g t cs) {p : Addr} (hp : g ≠ p.block) (u : Value) : Blk (w.setCell p u) g t cs := (Below.heap_setCell w p u g hp).trans h
theorem Blk.below {B : Nat} (h : Blk w g t cs) (hb : Below B w w') (hg : g < B) : Blk w' g t cs := (hb.block g hg).trans h
theorem Blk.next (h : Blk w g t cs) (hb : Below w.heap.size w w') : Blk w' g t cs := h.below hb h.lt
theorem Blk.grown {row : Option Nat} (h : Blk w g t cs) (hb : w.grownBy w' row) (hg : some g ≠ row) : Blk w' g t cs := (hb.block g h.lt hg).trans h
end

theorem run_make_rowN {P : Program} (t e : TypeId) (i : TypeInfo) (z : Value) (ht : P.underlying t = some (.slice e)) (hi : P.info? e = some i) (hz : i.zero = some z)
    (kl kc : IntKind) (n c : Nat) (hnc : n ≤ c) (hbytes : i.bytes * c ≤ 281474976710656) (h63 : c ≤ 9223372036854775807) (w : World) :
    (Instr.makeSlice t (.int kl (n : Int)) (.int kc (c : Int))).run P w = .ok (.slice (some ⟨w.heap.size, 0, none⟩) n c) (w.alloc (.cells (madeCells z.cells (c * i.size)) e)) := by
  have hb : (i.bytes : Int) * (c : Int) ≤ 281474976710656 := by
    have h : ((i.bytes * c : Nat) : Int) ≤ 281474976710656 := by omega
    rwa [Int.natCast_mul] at h
  have hr := run_make (P := P) w t e i z ht hi hz kl kc n c (by omega) (by omega) hb (by omega)
  simp only [Int.toNat_natCast] at hr
  exact hr

/-- A new slice that the call has made and that holds the list. -/
def RetNew {α : Type} (w0 : World) (E : TypeId) (sz : Nat) (enc : α → List Value) (xs : List α) (e : Ending) (w' : World) : Prop :=
  ∃ A c, e = .returned (.slice A xs.length c) ∧ w'.ownsRow w0.heap.size E sz (.slice A xs.length c) xs.length (xs.flatMap enc) ∧ Below w0.heap.size w0 w'

theorem flat_at {α : Type} {enc : α → List Value} {sz : Nat} : ∀ (xs : List α), (∀ x ∈ xs, (enc x).length = sz) → ∀ (k : Nat) (x : α), xs[k]? = some x → ∀ j, j < sz → (xs.flatMap enc)[k * sz + j]? = (enc x)[j]?
  | [], _, k, x, h, _, _ => by simp at h
  | y :: r, hl, 0, x, h, j, hj => by
    obtain rfl : y = x := by simpa using h
    have := hl y (by simp)
    simp only [List.flatMap_cons, Nat.zero_mul, Nat.zero_add]
    rw [List.getElem?_append_left (by omega)]
  | y :: r, hl, k + 1, x, h, j, hj => by
    have h1 := hl y (by simp)
    simp only [List.flatMap_cons]
    rw [List.getElem?_append_right (by rw [h1, Nat.succ_mul]; omega), h1, show (k + 1) * sz + j - sz = k * sz + j from by rw [Nat.succ_mul]; omega]
    exact flat_at r (fun z hz => hl z (by simp [hz])) k x (by simpa using h) j hj
theorem flat_len {α : Type} {enc : α → List Value} {sz : Nat} : ∀ (xs : List α), (∀ x ∈ xs, (enc x).length = sz) → (xs.flatMap enc).length = xs.length * sz
  | [], _ => by simp
  | y :: r, hl => by
    rw [List.flatMap_cons, List.length_append, hl y (by simp), flat_len r (fun z hz => hl z (by simp [hz])), List.length_cons, Nat.succ_mul]; omega

/-- What the call owns reads as a list. -/
theorem Rd.of_own {α : Type} {w : World} {base : Nat} {E : TypeId} {sz c : Nat} {A : Option Addr} {n : Nat} {enc : α → List Value} {xs : List α} (hl : ∀ x ∈ xs, (enc x).length = sz) (hn : xs.length = n)
    (h : w.ownsRow base E sz (.slice A n c) n (xs.flatMap enc)) : Rd w w.heap.size A n sz enc xs := by
  refine ⟨hn, fun hp => ?_⟩
  obtain ⟨g, cap, hv, _, hlt⟩ := h.form hp
  have hA : A = some ⟨g, 0, none⟩ := by injection hv
  subst hA
  refine ⟨g, 0, rfl, hlt, fun k x hx j v hv => ?_⟩
  have hj : j < sz := by
    have := (List.getElem?_eq_some_iff.1 hv).1
    rwa [hl x (List.mem_of_getElem? hx)] at this
  have := h.cells (g := g) rfl (k * sz + j) v (by rw [flat_at xs hl k x hx j hj]; exact hv)
  simpa [Addr.add_lit] using this

/-- a made row of n elements, of which a block is known whole -/
theorem own_of_blk {α : Type} {w : World} {base g n : Nat} {E : TypeId} {sz : Nat} {cs : Array Value} {enc : α → List Value} {xs : List α} (hb : Blk w g E cs) (hg : base ≤ g) (hs : cs.size = n * sz) (hn : xs.length = n) (hm : n ≤ maxLen)
    (hl : ∀ x ∈ xs, (enc x).length = sz) (hc : ∀ k x, xs[k]? = some x → ∀ j, j < sz → cs[k * sz + j]? = (enc x)[j]?) : w.ownsRow base E sz (.slice (some ⟨g, 0, none⟩) n n) n (xs.flatMap enc) := by
  refine ⟨by rw [flat_len xs hl, hn], .inr ⟨g, n, cs, rfl, hg, hb, Nat.le_refl _, hm, hs, ?_⟩⟩
  rw [List.take_of_length_le (by simp [hs])]
  apply List.ext_getElem?
  intro i
  by_cases hi : i < n * sz
  · have hsz : 0 < sz := by 
      rcases Nat.eq_zero_or_pos sz with h | h
      · subst h; simp at hi
      · exact h
    have hk : i / sz < n := Nat.div_lt_of_lt_mul (by rw [Nat.mul_comm]; exact hi)
    have he : i = i / sz * sz + i % sz := by rw [Nat.mul_comm]; exact (Nat.div_add_mod i sz).symm
    have hj : i % sz < sz := Nat.mod_lt _ hsz
    have hx : xs[i / sz]? = some (xs[i / sz]'(by omega)) := List.getElem?_eq_getElem _
    have h1 := hc _ _ hx _ hj
    have h2 := flat_at xs hl _ _ hx _ hj
    rw [← he] at h1 h2
    rw [h2, ← h1]; simp
  · rw [List.getElem?_eq_none (by simp [hs]; omega), List.getElem?_eq_none (by rw [flat_len xs hl, hn]; omega)]

/-- The rules that the walk takes for a world above. -/
theorem bcell {w w1 : World} {B : Nat} (hb : Below B w w1) : (∀ b o, b < B → w1.cell? ⟨b, o, none⟩ = w.cell? ⟨b, o, none⟩) ∧ (∀ b o, b < B → w1.frozen? ⟨b, o, none⟩ = w.frozen? ⟨b, o, none⟩) :=
  ⟨fun b o h => hb.cell (p := ⟨b, o, none⟩) h, fun b o h => hb.frozen (p := ⟨b, o, none⟩) h⟩

/-- a text's length, for a measure -/
def strLen : Value → Nat | .string r => r.size | _ => 0
theorem tl_inj {a b : ByteArray} : a.toList = b.toList ↔ a = b := by
  rw [ByteArray.toList_eq, ByteArray.toList_eq]
  constructor
  · intro h; cases a; cases b; simp_all
  · rintro rfl; rfl
theorem tl_beq (a b : ByteArray) : (a.toList == b.toList) = decide (a = b) := by
  rw [Bool.eq_iff_iff]; simp [tl_inj]
theorem drop_cons {α : Type} {xs : List α} {k : Nat} {x : α} (h : xs[k]? = some x) : xs.drop k = x :: xs.drop (k + 1) := by
  rw [List.drop_eq_getElem?_toList_append (i := k), h]; rfl
theorem ret_slice {A : Option Addr} {n m c : Nat} (h : n = m) : Ending.returned (.slice A n c) = .returned (.slice A m c) := by rw [h]
theorem ret_bool {a b : Bool} (h : a = b) : Ending.returned (.bool a) = .returned (.bool b) := by rw [h]
theorem ret_int {k : IntKind} {a b : Int} (h : a = b) : Ending.returned (.int k a) = .returned (.int k b) := by rw [h]
end Go.Proofs.YtcpofhjoblgmgaaDoor
