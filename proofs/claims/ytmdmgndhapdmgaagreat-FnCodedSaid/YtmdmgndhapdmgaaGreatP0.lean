/-
  Texts of this claim, merged: Base Let Own Gram GramS FoldM Frame FoldI IdxR Make Ints IdxI Mark MarkI.
-/
import Derived.Test.YtmdmgndhapdmgaaGreatRows
import Derived.WalkKit
import Derived.WalkSpells
import Derived.WalkLawsBesides
import Derived.Lib.Hide
import Derived.BigQuiet
import Derived.Deep.Draws
import Derived.Deep.AppendLies
import Derived.Deep.Onto
import Derived.Maps.AppendAt
import Derived.MapFrom
import Derived.Carry
import Derived.Deep.RegionHeld3


/-
  Words for memory that all proofs of this seat share: worlds above a world, slices that read as lists, blocks known whole.
-/
namespace Go.Proofs.YtmdmgndhapdmgaaGreat
open Go.RowKit

/-- A world above 'w': below block B nothing has turned. -/
structure Up (B : Nat) (w : World) where
  w' : World
  h : Below B w w'
instance (B : Nat) (w : World) : Nonempty (Up B w) := ⟨⟨w, Below.refl B w⟩⟩
theorem Up.cell {B : Nat} {w : World} (x : Up B w) (p : Addr) (h : p.block < B) : x.w'.cell? p = w.cell? p := x.h.cell h
theorem Up.frozen {B : Nat} {w : World} (x : Up B w) (p : Addr) (h : p.block < B) : x.w'.frozen? p = w.frozen? p := x.h.frozen h

theorem up_of {B : Nat} {w w' : World} (h : ∃ x : Up B w, w' = x.w') : Below B w w' := by obtain ⟨x, rfl⟩ := h; exact x.h
theorem upc (B : Nat) (w : World) : ∀ (x : Up B w) (b o : Nat), b < B → x.w'.cell? ⟨b, o, none⟩ = w.cell? ⟨b, o, none⟩ := fun x _ _ h => x.h.cell h

/-- A region that draws its order; its operations read old memory, its callees leave old memory alone: one walk. -/
theorem wp_region_up {P : Program} {id : Nat} {Q : Exit → Act → World → Prop} {a : Act} {w : World} {l : List Oper} (B : Nat) (hm : P.follows .mixedOrders = true) (hB : Region.lexB .any l.toArray = true)
    (h : wpQuiet P l.toArray (fun w' => ∃ x : Up B w, w' = x.w') (fun a' => ∀ w', (∃ x : Up B w, w' = x.w') → Q .normal a' w') l a) : (Code.region id l.toArray true).wp P Q a w :=
  wp_region_quiet (C := fun w' => ∃ x : Up B w, w' = x.w') hm hB ⟨⟨_, (Below.refl B w).drew⟩, rfl⟩ (by simpa using h)

/-- A callee's contract, met in a world above. -/
theorem Calls.up {P : Program} {f : FuncId} {args : Array Value} {B : Nat} {w : World} {x : Up B w} {v : Value} (hB : B ≤ w.heap.size)
    (h : Calls P f args x.w' fun e w' => e = .returned v ∧ Below x.w'.heap.size x.w' w') : Calls P f args x.w' fun e w'' => e = .returned v ∧ ∃ y : Up B w, w'' = y.w' :=
  h.mono fun _ w' ⟨he, hb⟩ => ⟨he, ⟨w', x.h.trans (hb.mono (Nat.le_trans hB x.h.size))⟩, rfl⟩

/-- What a call leaves that hands back 'v' and turns nothing that was there. -/
def Ret (v : Value) (w : World) (e : Ending) (w' : World) : Prop := e = .returned v ∧ Below w.heap.size w w'

theorem Calls.upR {P : Program} {f : FuncId} {args : Array Value} {B : Nat} {w : World} {x : Up B w} {v : Value} (hB : B ≤ w.heap.size) (h : Calls P f args x.w' (Ret v x.w')) : Calls P f args x.w' fun e w'' => e = .returned v ∧ ∃ y : Up B w, w'' = y.w' := Calls.up hB h
/-- 'n' elements of 'sz' cells each, from the address on, hold the list 'xs' (each element's cells by 'enc'); all below block B. -/
def Rd {α : Type} (w : World) (B : Nat) (A : Option Addr) (n sz : Nat) (enc : α → List Value) (xs : List α) : Prop :=
  xs.length = n ∧ (0 < n → ∃ b o, A = some ⟨b, o, none⟩ ∧ b < B ∧ ∀ k x, xs[k]? = some x → ∀ j v, (enc x)[j]? = some v → w.cell? ⟨b, o + k * sz + j, none⟩ = some v)

section
variable {α : Type} {w w' : World} {B B' n sz : Nat} {A : Option Addr} {enc : α → List Value} {xs : List α}
theorem Rd.len (h : Rd w B A n sz enc xs) : xs.length = n := h.1
theorem Rd.at_ {k : Nat} (h : Rd w B A n sz enc xs) (hk : k < n) : ∃ b o, A = some ⟨b, o, none⟩ ∧ b < B ∧ ∃ x, xs[k]? = some x ∧ ∀ j v, (enc x)[j]? = some v → w.cell? ⟨b, o + k * sz + j, none⟩ = some v := by
  obtain ⟨b, o, hA, hb, hc⟩ := h.2 (by omega)
  have hl : k < xs.length := by have := h.1; omega
  exact ⟨b, o, hA, hb, xs[k], List.getElem?_eq_getElem hl, hc k _ (List.getElem?_eq_getElem hl)⟩
theorem Rd.keep (h : Rd w B A n sz enc xs) (hk : ∀ p : Addr, p.block < B → w'.cell? p = w.cell? p) : Rd w' B A n sz enc xs :=
  ⟨h.1, fun hn => by
    obtain ⟨b, o, e, hb, hc⟩ := h.2 hn
    exact ⟨b, o, e, hb, fun k x hx j v hv => (hk _ hb).trans (hc k x hx j v hv)⟩⟩
theorem Rd.more (h : Rd w B A n sz enc xs) (hB : B ≤ B') : Rd w B' A n sz enc xs :=
  ⟨h.1, fun hn => by
    obtain ⟨b, o, e, hb, hc⟩ := h.2 hn
    exact ⟨b, o, e, by omega, hc⟩⟩
theorem Rd.below (h : Rd w B A n sz enc xs) (hb : Below B w w') : Rd w' B A n sz enc xs := h.keep fun _ hp => hb.cell hp
theorem Rd.none_ : Rd w B A 0 sz enc [] := ⟨rfl, fun h => absurd h (by omega)⟩
/-- behind a call that turned nothing old -/
theorem Rd.next (h : Rd w w.heap.size A n sz enc xs) (hb : Below w.heap.size w w') : Rd w' w'.heap.size A n sz enc xs := (h.below hb).more hb.size
theorem Rd.next' (h : Rd w B A n sz enc xs) (hB : B ≤ w.heap.size) (hb : Below w.heap.size w w') : Rd w' B A n sz enc xs := h.below (hb.mono hB)
end

/-- A string and two numbers: a Rule or a Factor. -/
structure Fac where
  l : ByteArray
  a : Int
  b : Int
  deriving Inhabited, DecidableEq
def Fac.cells (f : Fac) : List Value := [.string f.l, .int .i64 f.a, .int .i64 f.b]
abbrev Fac.val (f : Fac) : Value := .agg #[.string f.l, .int .i64 f.a, .int .i64 f.b]

theorem Rd.fac {w : World} {B n : Nat} {A : Option Addr} {xs : List Fac} {k : Nat} (h : Rd w B A n 3 Fac.cells xs) (hk : k < n) :
    ∃ b o x, A = some ⟨b, o, none⟩ ∧ b < B ∧ xs[k]? = some x ∧ w.cell? ⟨b, o + k * 3, none⟩ = some (.string x.l) ∧ w.cell? ⟨b, o + k * 3 + 1, none⟩ = some (.int .i64 x.a) ∧ w.cell? ⟨b, o + k * 3 + 2, none⟩ = some (.int .i64 x.b) := by
  obtain ⟨b, o, hA, hb, x, hx, hc⟩ := h.at_ hk
  exact ⟨b, o, x, hA, hb, hx, hc 0 _ rfl, hc 1 _ rfl, hc 2 _ rfl⟩
theorem Rd.str {w : World} {B n : Nat} {A : Option Addr} {xs : List ByteArray} {k : Nat} (h : Rd w B A n 1 (fun s => [.string s]) xs) (hk : k < n) :
    ∃ b o x, A = some ⟨b, o, none⟩ ∧ b < B ∧ xs[k]? = some x ∧ w.cell? ⟨b, o + k, none⟩ = some (.string x) := by
  obtain ⟨b, o, hA, hb, x, hx, hc⟩ := h.at_ hk
  exact ⟨b, o, x, hA, hb, hx, by simpa using hc 0 _ rfl⟩
theorem Rd.int {w : World} {B n : Nat} {A : Option Addr} {xs : List Int} {k : Nat} (h : Rd w B A n 1 (fun s => [.int .i64 s]) xs) (hk : k < n) :
    ∃ b o x, A = some ⟨b, o, none⟩ ∧ b < B ∧ xs[k]? = some x ∧ w.cell? ⟨b, o + k, none⟩ = some (.int .i64 x) := by
  obtain ⟨b, o, hA, hb, x, hx, hc⟩ := h.at_ hk
  exact ⟨b, o, x, hA, hb, hx, by simpa using hc 0 _ rfl⟩

/-- A block known whole. -/
def Blk (w : World) (g : Nat) (t : TypeId) (cs : Array Value) : Prop := w.heap[g]? = some (.cells cs t (0, 0))
section
variable {w w' : World} {g : Nat} {t : TypeId} {cs : Array Value}
theorem Blk.lt (h : Blk w g t cs) : g < w.heap.size := by
  rcases Nat.lt_or_ge g w.heap.size with hlt | hge
  · exact hlt
  · unfold Blk at h; rw [Array.getElem?_eq_none hge] at h; cases h
theorem Blk.cell (h : Blk w g t cs) (i : Nat) : w.cell? ⟨g, i, none⟩ = cs[i]? := cell_of_row w g i cs t (0, 0) h
theorem Blk.frozen (h : Blk w g t cs) (i : Nat) : w.frozen? ⟨g, i, none⟩ = false := by
  unfold Blk at h
  simp [World.frozen?, h]
theorem Blk.new (w : World) (t : TypeId) (cs : Array Value) : Blk (w.alloc (.cells cs t)) w.heap.size t cs := heap_alloc_new w _
theorem Blk.three {x y z : Value} (h : Blk w g t #[x, y, z]) : w.cell? ⟨g, 0, none⟩ = some x ∧ w.cell? ⟨g, 1, none⟩ = some y ∧ w.cell? ⟨g, 2, none⟩ = some z := ⟨h.cell 0, h.cell 1, h.cell 2⟩
theorem Blk.drew (h : Blk w g t cs) : Blk w.drew g t cs := h
theorem Blk.alloc (h : Blk w g t cs) (o : Obj) : Blk (w.alloc o) g t cs := (Below.heap_alloc w o g h.lt).trans h
theorem Blk.set_ (h : Blk w g t cs) (i : Nat) (u : Value) : Blk (w.setCell ⟨g, i, none⟩ u) g t (cs.setIfInBounds i u) := by
  unfold Blk at h ⊢
  simp [World.setCell, Array.getElem?_modify, h]
theorem Blk.far (h : Blk w g t cs) {p : Addr} (hp : g ≠ p.block) (u : Value) : Blk (w.setCell p u) g t cs := (Below.heap_setCell w p u g hp).trans h
theorem Blk.below {B : Nat} (h : Blk w g t cs) (hb : Below B w w') (hg : g < B) : Blk w' g t cs := (hb.block g hg).trans h
theorem Blk.next (h : Blk w g t cs) (hb : Below w.heap.size w w') : Blk w' g t cs := h.below hb h.lt
theorem Blk.grown {row : Option Nat} (h : Blk w g t cs) (hb : w.grownBy w' row) (hg : some g ≠ row) : Blk w' g t cs := (hb.block g h.lt hg).trans h
end

theorem run_make_rowN {P : Program} (t e : TypeId) (i : TypeInfo) (z : Value) (ht : P.underlying t = some (.slice e)) (hi : P.info? e = some i) (hz : i.zero = some z)
    (kl kc : IntKind) (n c : Nat) (hnc : n ≤ c) (hbytes : i.bytes * c ≤ 281474976710656) (h63 : c ≤ 9223372036854775807) (w : World) :
    (Instr.makeSlice t (.int kl (n : Int)) (.int kc (c : Int))).run P w = .ok (.slice (some ⟨w.heap.size, 0, none⟩) n c) (w.alloc (.cells (madeCells z.cells (c * i.size)) e)) := by
  have hb : (i.bytes : Int) * (c : Int) ≤ 281474976710656 := by
    have h : ((i.bytes * c : Nat) : Int) ≤ 281474976710656 := by omega
    rwa [Int.natCast_mul] at h
  have hr := run_make (P := P) w t e i z ht hi hz kl kc n c (by omega) (by omega) hb (by omega)
  simp only [Int.toNat_natCast] at hr
  exact hr

/-- A new slice that the call has made and that holds the list. -/
def RetNew {α : Type} (w0 : World) (E : TypeId) (sz : Nat) (enc : α → List Value) (xs : List α) (e : Ending) (w' : World) : Prop :=
  ∃ A c, e = .returned (.slice A xs.length c) ∧ w'.ownsRow w0.heap.size E sz (.slice A xs.length c) xs.length (xs.flatMap enc) ∧ Below w0.heap.size w0 w'

theorem flat_at {α : Type} {enc : α → List Value} {sz : Nat} : ∀ (xs : List α), (∀ x ∈ xs, (enc x).length = sz) → ∀ (k : Nat) (x : α), xs[k]? = some x → ∀ j, j < sz → (xs.flatMap enc)[k * sz + j]? = (enc x)[j]?
  | [], _, k, x, h, _, _ => by simp at h
  | y :: r, hl, 0, x, h, j, hj => by
    obtain rfl : y = x := by simpa using h
    have := hl y (by simp)
    simp only [List.flatMap_cons, Nat.zero_mul, Nat.zero_add]
    rw [List.getElem?_append_left (by omega)]
  | y :: r, hl, k + 1, x, h, j, hj => by
    have h1 := hl y (by simp)
    simp only [List.flatMap_cons]
    rw [List.getElem?_append_right (by rw [h1, Nat.succ_mul]; omega), h1, show (k + 1) * sz + j - sz = k * sz + j from by rw [Nat.succ_mul]; omega]
    exact flat_at r (fun z hz => hl z (by simp [hz])) k x (by simpa using h) j hj
theorem flat_len {α : Type} {enc : α → List Value} {sz : Nat} : ∀ (xs : List α), (∀ x ∈ xs, (enc x).length = sz) → (xs.flatMap enc).length = xs.length * sz
  | [], _ => by simp
  | y :: r, hl => by
    rw [List.flatMap_cons, List.length_append, hl y (by simp), flat_len r (fun z hz => hl z (by simp [hz])), List.length_cons, Nat.succ_mul]; omega

/-- What the call owns reads as a list. -/
theorem Rd.of_own {α : Type} {w : World} {base : Nat} {E : TypeId} {sz c : Nat} {A : Option Addr} {n : Nat} {enc : α → List Value} {xs : List α} (hl : ∀ x ∈ xs, (enc x).length = sz) (hn : xs.length = n)
    (h : w.ownsRow base E sz (.slice A n c) n (xs.flatMap enc)) : Rd w w.heap.size A n sz enc xs := by
  refine ⟨hn, fun hp => ?_⟩
  obtain ⟨g, cap, hv, _, hlt⟩ := h.form hp
  have hA : A = some ⟨g, 0, none⟩ := by injection hv
  subst hA
  refine ⟨g, 0, rfl, hlt, fun k x hx j v hv => ?_⟩
  have hj : j < sz := by
    have := (List.getElem?_eq_some_iff.1 hv).1
    rwa [hl x (List.mem_of_getElem? hx)] at this
  have := h.cells (g := g) rfl (k * sz + j) v (by rw [flat_at xs hl k x hx j hj]; exact hv)
  simpa [Addr.add_lit] using this

/-- a made row of n elements, of which a block is known whole -/
theorem own_of_blk {α : Type} {w : World} {base g n : Nat} {E : TypeId} {sz : Nat} {cs : Array Value} {enc : α → List Value} {xs : List α} (hb : Blk w g E cs) (hg : base ≤ g) (hs : cs.size = n * sz) (hn : xs.length = n) (hm : n ≤ maxLen)
    (hl : ∀ x ∈ xs, (enc x).length = sz) (hc : ∀ k x, xs[k]? = some x → ∀ j, j < sz → cs[k * sz + j]? = (enc x)[j]?) : w.ownsRow base E sz (.slice (some ⟨g, 0, none⟩) n n) n (xs.flatMap enc) := by
  refine ⟨by rw [flat_len xs hl, hn], .inr ⟨g, n, cs, rfl, hg, hb, Nat.le_refl _, hm, hs, ?_⟩⟩
  rw [List.take_of_length_le (by simp [hs])]
  apply List.ext_getElem?
  intro i
  by_cases hi : i < n * sz
  · have hsz : 0 < sz := by 
      rcases Nat.eq_zero_or_pos sz with h | h
      · subst h; simp at hi
      · exact h
    have hk : i / sz < n := Nat.div_lt_of_lt_mul (by rw [Nat.mul_comm]; exact hi)
    have he : i = i / sz * sz + i % sz := by rw [Nat.mul_comm]; exact (Nat.div_add_mod i sz).symm
    have hj : i % sz < sz := Nat.mod_lt _ hsz
    have hx : xs[i / sz]? = some (xs[i / sz]'(by omega)) := List.getElem?_eq_getElem _
    have h1 := hc _ _ hx _ hj
    have h2 := flat_at xs hl _ _ hx _ hj
    rw [← he] at h1 h2
    rw [h2, ← h1]; simp
  · rw [List.getElem?_eq_none (by simp [hs]; omega), List.getElem?_eq_none (by rw [flat_len xs hl, hn]; omega)]

/-- The rules that the walk takes for a world above. -/
theorem bcell {w w1 : World} {B : Nat} (hb : Below B w w1) : (∀ b o, b < B → w1.cell? ⟨b, o, none⟩ = w.cell? ⟨b, o, none⟩) ∧ (∀ b o, b < B → w1.frozen? ⟨b, o, none⟩ = w.frozen? ⟨b, o, none⟩) :=
  ⟨fun b o h => hb.cell (p := ⟨b, o, none⟩) h, fun b o h => hb.frozen (p := ⟨b, o, none⟩) h⟩

/-- a text's length, for a measure -/
def strLen : Value → Nat | .string r => r.size | _ => 0
theorem tl_inj {a b : ByteArray} : a.toList = b.toList ↔ a = b := by
  rw [ByteArray.toList_eq, ByteArray.toList_eq]
  constructor
  · intro h; cases a; cases b; simp_all
  · rintro rfl; rfl
theorem tl_beq (a b : ByteArray) : (a.toList == b.toList) = decide (a = b) := by
  rw [Bool.eq_iff_iff]; simp [tl_inj]
theorem drop_cons {α : Type} {xs : List α} {k : Nat} {x : α} (h : xs[k]? = some x) : xs.drop k = x :: xs.drop (k + 1) := by
  rw [List.drop_eq_getElem?_toList_append (i := k), h]; rfl
theorem ret_slice {A : Option Addr} {n m c : Nat} (h : n = m) : Ending.returned (.slice A n c) = .returned (.slice A m c) := by rw [h]
theorem ret_bool {a b : Bool} (h : a = b) : Ending.returned (.bool a) = .returned (.bool b) := by rw [h]
theorem ret_int {k : IntKind} {a b : Int} (h : a = b) : Ending.returned (.int k a) = .returned (.int k b) := by rw [h]
end Go.Proofs.YtmdmgndhapdmgaaGreat


/-
  Bounds, letters and plain words, in the program and in the reference.
-/
namespace Go.Proofs.YtmdmgndhapdmgaaGreat
open Go.RowKit

/-- is a number from low to high? -/
def inB (n lo hi : Int) : Bool := decide (lo ≤ n ∧ n ≤ hi)
/-- is a byte a letter? -/
def letB (c : UInt8) : Bool := decide (97 ≤ (c.toNat : Int) ∧ (c.toNat : Int) ≤ 100)
/-- is a text a letter? -/
def letT (s : ByteArray) : Bool := match s.data.toList with | [c] => letB c | _ => false
/-- is a text a plain word? -/
def okW (s : ByteArray) : Bool := decide (s.size ≤ 2000) && s.data.toList.all letB

theorem within_any (n lo hi : Int) (b : Bool) (w : World) (hb : inB n lo hi = b) :
    Calls Tryz.prog 76 #[.int .i64 n, .int .i64 lo, .int .i64 hi] w (Ret (.bool b) w) := by
  by_cases h1 : lo ≤ n
  · by_cases h2 : n ≤ hi
    all_goals
      have e := Lib.hid (show inB n lo hi = decide (n ≤ hi) by simp [inB, h1])
      have Hb := Lib.hid hb; clear hb
      go_enter Tryz.func76, Tryz.ntmps76
      go_wp2
      go_ret
      exact ⟨ret_bool (by rw [← Hb.out, e.out]; simp; omega), Below.refl _ _⟩
  · have e := Lib.hid (show inB n lo hi = false by simp [inB, h1])
    have Hb := Lib.hid hb; clear hb
    go_enter Tryz.func76, Tryz.ntmps76
    go_wp2
    go_ret
    exact ⟨ret_bool (by rw [← Hb.out, e.out]), Below.refl _ _⟩

theorem isLetter_any (c : UInt8) (b : Bool) (w : World) (hb : letB c = b) :
    Calls Tryz.prog 62 #[.int .u8 (c.toNat : Int)] w (Ret (.bool b) w) := by
  have hc : (c.toNat : Int) < 256 := by have := c.toNat_lt; omega
  have e := Lib.hid (show letB c = decide (97 ≤ (c.toNat : Int) ∧ (c.toNat : Int) ≤ 100) from rfl)
  have Hb := Lib.hid hb; clear hb
  by_cases h1 : 97 ≤ (c.toNat : Int)
  all_goals
    go_enter Tryz.func62, Tryz.ntmps62
    go_wp2
    go_ret
    exact ⟨ret_bool (by rw [← Hb.out, e.out]; simp; omega), Below.refl _ _⟩
theorem one_byte {s : ByteArray} (h : s.size = 1) : ∃ c, s = ⟨#[c]⟩ := by
  obtain ⟨⟨l⟩⟩ := s
  match l, h with
  | [c], _ => exact ⟨c, rfl⟩
theorem letT_not {s : ByteArray} (h : s.size ≠ 1) : letT s = false := by
  unfold letT
  split
  · rename_i c hc
    exfalso; apply h
    show s.data.size = 1
    rw [← Array.length_toList, hc]; rfl
  · rfl

theorem at_byte (s : ByteArray) (k : Nat) (h : k < s.size) : s.data.toList[k]? = some s[k] := by
  rw [List.getElem?_eq_getElem (by rw [Array.length_toList]; exact h)]
  simp; rfl
theorem byte_len (s : ByteArray) : s.data.toList.length = s.size := by rw [Array.length_toList]; rfl
theorem size0 {s : ByteArray} (h : s.size = 0) : s.toList = [] := by
  rw [ByteArray.toList_eq]; apply List.eq_nil_of_length_eq_zero; rw [byte_len]; exact h
theorem size1 {s : ByteArray} (h : s.size ≠ 0) : s.toList ≠ [] := by
  rw [ByteArray.toList_eq]; intro e; apply h; rw [← byte_len, e]; rfl

theorem size1' {s : ByteArray} (h : s.size ≠ 0) : s.toList.isEmpty = false := by
  have := size1 h
  cases hq : s.toList with
  | nil => exact absurd hq this
  | cons => rfl
theorem okW_all {s : ByteArray} (h : s.size ≤ 2000) : okW s = s.data.toList.all letB := by simp [okW, h]
theorem okW_big {s : ByteArray} (h : 2000 < s.size) : okW s = false := by
  have : decide (s.size ≤ 2000) = false := by simp; omega
  simp only [okW, this, Bool.false_and]
theorem okW_not {s : ByteArray} (h : s.data.toList.all letB = false) : okW s = false := by simp only [okW, h, Bool.and_false]

set_option maxHeartbeats 400000 in
theorem validWord_any (s : ByteArray) (b : Bool) (w : World) (hs : s.size ≤ maxLen) (hb : okW s = b) :
    Calls Tryz.prog 24 #[.string s] w (Ret (.bool b) w) := by
  unfold maxLen at hs
  have Hb := Lib.hid hb; clear hb
  go_enter Tryz.func24, Tryz.ntmps24
  go_wp2
  go_loopw [6] (fun i w' => ∃ k : Nat, i = .int .i64 k ∧ k ≤ s.size ∧ Below w.heap.size w w' ∧ Hid ((s.data.toList.drop k).all letB = s.data.toList.all letB)) (fun i _ => s.size - (intOf i).toNat)
  case atStart => exact ⟨0, rfl, by omega, Below.refl _ _, Lib.hid rfl⟩
  case round =>
    obtain ⟨k, rfl, hk, hbb, H⟩ := hrel
    by_cases hlt : k < s.size
    · have H' := Lib.hid (show (letB s[k] && (s.data.toList.drop (k + 1)).all letB) = s.data.toList.all letB by rw [← H.out, drop_cons (at_byte s k hlt)]; rfl)
      rcases hc : letB s[k] with _ | _
      · have Hc := Lib.hid hc; clear hc
        go_wp2_with (go_at_call 62; refine (isLetter_any s[k] false _ Hc.out).mono ?_; rintro e w1 ⟨rfl, hb1⟩)
        go_ret
        exact ⟨ret_bool (by rw [← Hb.out]; exact (okW_not (by rw [← H'.out, Hc.out]; rfl)).symm), hbb.trans (hb1.mono hbb.size)⟩
      · have Hc := Lib.hid hc; clear hc
        go_wp2_with (go_at_call 62; refine (isLetter_any s[k] true _ Hc.out).mono ?_; rintro e w1 ⟨rfl, hb1⟩)
        go_roundw
        case rel => exact ⟨k + 1, by go_num, by omega, hbb.trans (hb1.mono hbb.size), by rw [← H'.out, Hc.out, Bool.true_and]; exact Lib.hid rfl⟩
        case measure => simp [intOf]; omega
    · have ha := Lib.hid (show s.data.toList.all letB = true by rw [← H.out, List.drop_of_length_le (by rw [byte_len]; omega)]; rfl)
      have e := Lib.hid (show okW s = decide ((s.size : Int) ≤ 2000) by simp only [okW, ha.out, Bool.and_true]; rw [decide_eq_decide]; omega)
      go_wp2
      go_ret
      exact ⟨ret_bool (by rw [← Hb.out, e.out]), hbb⟩

set_option maxHeartbeats 400000 in
theorem specOk_any (s : ByteArray) (b : Bool) (w : World) (hs : s.size ≤ maxLen) (hb : okW s = b) :
    Calls Tryz.prog 29 #[.string s] w (Ret (.bool b) w) := by
  unfold maxLen at hs
  have Hb := Lib.hid hb; clear hb
  by_cases h : s.size ≤ 2000
  · have e := Lib.hid (okW_all h)
    go_enter Tryz.func29, Tryz.ntmps29
    go_wp2
    go_loopw [3] (fun i w' => ∃ k : Nat, i = .int .i64 k ∧ k ≤ s.size ∧ Below w.heap.size w w' ∧ Hid ((s.data.toList.drop k).all letB = s.data.toList.all letB)) (fun i _ => s.size - (intOf i).toNat)
    case atStart => exact ⟨0, rfl, by omega, Below.refl _ _, Lib.hid rfl⟩
    case round =>
      obtain ⟨k, rfl, hk, hbb, H⟩ := hrel
      by_cases hlt : k < s.size
      · have H' := Lib.hid (show (letB s[k] && (s.data.toList.drop (k + 1)).all letB) = s.data.toList.all letB by rw [← H.out, drop_cons (at_byte s k hlt)]; rfl)
        have hc : (s[k].toNat : Int) < 256 := by have := s[k].toNat_lt; omega
        have he := Lib.hid (show letB s[k] = decide (97 ≤ (s[k].toNat : Int) ∧ (s[k].toNat : Int) ≤ 100) from rfl)
        by_cases h1 : (s[k].toNat : Int) < 97
        · have d1 : decide ((s[k].toNat : Int) < 97) = true := by simpa using h1
          go_wp2
          go_ret
          exact ⟨ret_bool (by rw [← Hb.out, e.out, ← H'.out, he.out]; simp; omega), hbb⟩
        · have d1 : decide ((s[k].toNat : Int) < 97) = false := by simpa using h1
          by_cases h2 : 100 < (s[k].toNat : Int)
          · go_wp2
            go_ret
            exact ⟨ret_bool (by rw [← Hb.out, e.out, ← H'.out, he.out]; simp; omega), hbb⟩
          · go_wp2
            go_roundw
            case rel => exact ⟨k + 1, by go_num, by omega, hbb, Lib.hid (by rw [← H'.out, he.out]; simp; omega)⟩
            case measure => simp [intOf]; omega
      · go_wp2
        go_ret
        exact ⟨ret_bool (by rw [← Hb.out, e.out, ← H.out, List.drop_of_length_le (by rw [byte_len]; omega)]; rfl), hbb⟩
  · have e := Lib.hid (okW_big (s := s) (by omega))
    go_enter Tryz.func29, Tryz.ntmps29
    go_wp2
    go_ret
    exact ⟨ret_bool (by rw [← Hb.out, e.out]), Below.refl _ _⟩
theorem okW_one (c : UInt8) : okW ⟨#[c]⟩ = letB c := by
  show (decide (1 ≤ 2000) && (letB c && true)) = letB c
  simp
end Go.Proofs.YtmdmgndhapdmgaaGreat


/-
  Slices and maps that a call makes for itself: one element more; look-up and store.
-/
namespace Go.Proofs.YtmdmgndhapdmgaaGreat
open Go.RowKit Go.MapKept
open Go.ChangeMaps (setBlock)

/-- the element type of a slice type -/
def Elem (P : Program) (t e : TypeId) (sz bytes : Nat) : Prop :=
  P.underlying t = some (.slice e) ∧ ∃ i z, P.info? e = some i ∧ i.zero = some z ∧ i.size = sz ∧ i.bytes = bytes ∧ z.cells.size = sz
theorem Elem.mk' {P : Program} {t e : TypeId} {sz bytes : Nat} {z : Value} (ht : P.underlying t = some (.slice e)) (h : (P.info? e).map (fun i => (i.zero, i.size, i.bytes)) = some (some z, sz, bytes)) (hz : z.cells.size = sz) : Elem P t e sz bytes := by
  obtain ⟨i, hi, h0, h1, h2⟩ := info_parts h
  exact ⟨ht, i, z, hi, h0, h1, h2, hz⟩

section
variable {α : Type} {P : Program} {w0 w : World} {ops : Array Oper} {rest : List Oper} {o : Oper} {a : Act} {Q : Exit → Act → World → Prop}
/-- one element more at the end of a slice of the call's own -/
theorem wpList_push (hgd : o.guard = none) (s x : Operand) (t : TypeId) (ho : o.op = .call { callee := .builtin .append, args := #[s, x], argTypes := #[t, t] })
    (base : Nat) (e : TypeId) (sz bytes : Nat) (EI : Elem P t e sz bytes) (enc : α → List Value) (A : Option Addr) (n c : Nat) (xs : List α) (hs : a.eval s = .slice A n c)
    (hown : w.ownsRow base e sz (.slice A n c) n (xs.flatMap enc)) (g : Nat) (y : α) (cs : Array Value) (t' : TypeId) (fr : Nat × Nat) (hx : a.eval x = .slice (some ⟨g, 0, none⟩) 1 1) (hg : w.heap[g]? = some (.cells cs t' fr)) (hcs : cs.toList = enc y)
    (hlen : (enc y).length = sz) (hone : ∀ u ∈ enc y, u.oneCell' = true) (hsz : 0 < sz) (hbytes : (n + 1) * bytes ≤ 140737488355328) (hm : n + 1 ≤ maxLen) (hbase : base = w0.heap.size) (hb : Below base w0 w)
    (h : ∀ A' c' w', w'.ownsRow base e sz (.slice A' (n + 1) c') (n + 1) ((xs ++ [y]).flatMap enc) → w.grownBy w' (Value.slice A n c).ownBlock →
      ((Value.slice A' (n + 1) c').ownBlock = (Value.slice A n c).ownBlock ∨ (Value.slice A' (n + 1) c').ownBlock = some w.heap.size) → Below base w0 w' → wpList P ops Q rest (a.put o.dst (.slice A' (n + 1) c')) w') : wpList P ops Q (o :: rest) a w := by
  obtain ⟨ht, i, z, hi, hz, h1, h2, hzs⟩ := EI
  have hsize : base ≤ w.heap.size := by rw [hbase]; exact hb.size
  have hnews : ∀ j u, (enc y)[j]? = some u → w.cell? ((⟨g, 0, none⟩ : Addr).add j) = some u := by rw [← hcs]; exact World.news_of_block hg
  refine wpList_plain hgd fun _ hK => ?_
  obtain ⟨v', w', hr, r2, r3, _, r5⟩ := run_append_own_at (P := P) w base t o.type e i z sz bytes ht hi hz h1 h2 hzs hsz _ n _ hown ⟨g, 0, none⟩ 1 1 (enc y) (by rw [hlen]; omega) hnews hone hm hbytes hsize
  obtain ⟨g', cap, rfl, _, _⟩ := r2.form (by omega)
  unfold Oper.wp execOp
  simp only [ho, resolve, invoke, builtin, Sem.run_bind, Sem.run_pure, Result.andThen_ok, List.map_toArray, List.map_cons, List.map_nil, hs, hx, hr]
  refine hK _ _ (h _ _ w' (by rw [List.flatMap_append]; simpa using r2) r3 r5 (hb.grown r3 hsize fun k hk => ?_))
  exact (hown.lt k hk).1
end

theorem own_next {w w' : World} {base : Nat} {e : TypeId} {sz n : Nat} {v : Value} {xs : List Value} (h : w.ownsRow base e sz v n xs) (hb : Below w.heap.size w w') : w'.ownsRow base e sz v n xs := by
  refine ⟨h.1, ?_⟩
  rcases h.2 with hn | ⟨g, cap, cur, rfl, hg, hh, r⟩
  · exact .inl hn
  · exact .inr ⟨g, cap, cur, rfl, hg, (hb.block g (Array.getElem?_eq_some_iff.1 hh).1).trans hh, r⟩

/-- rows of other element types lie elsewhere -/
theorem own_blk_ne {w : World} {base g : Nat} {e t : TypeId} {size n : Nat} {v : Value} {xs : List Value} {cs : Array Value} (h : w.ownsRow base e size v n xs) (hg : Blk w g t cs) (hne : e ≠ t) : some g ≠ v.ownBlock := by
  rcases h.2 with ⟨rfl, _⟩ | ⟨g', cap, cur, rfl, _, hh, _⟩
  · simp [Value.ownBlock]
  · intro he
    have : g = g' := by simpa [Value.ownBlock] using he
    subst this
    unfold Blk at hg
    rw [hg] at hh
    injection hh with hh
    injection hh with _ ht
    exact hne ht.symm

/-! ### maps -/
/-- where a key stands, and what it holds -/
def midx {α : Type} [DecidableEq α] (a : α) : List (α × Value) → Nat → Option (Nat × Value)
  | [], _ => none
  | p :: r, i => if a = p.1 then some (i, p.2) else midx a r (i + 1)
def mget {α : Type} [DecidableEq α] (a : α) (m : List (α × Value)) : Option Value := (midx a m 0).map (·.2)
def mput {α : Type} [DecidableEq α] (a : α) (v : Value) (m : List (α × Value)) : List (α × Value) :=
  match midx a m 0 with
  | some (i, _) => m.modify i (fun _ => (a, v))
  | none => m ++ [(a, v)]

section
variable {α : Type} [DecidableEq α]
theorem midx_cons (a : α) (p : α × Value) (r : List (α × Value)) (i : Nat) : midx a (p :: r) i = if a = p.1 then some (i, p.2) else midx a r (i + 1) := rfl
theorem midx_shift (a : α) : ∀ (m : List (α × Value)) (i : Nat), midx a m i = (midx a m 0).map fun p => (p.1 + i, p.2)
  | [], _ => rfl
  | p :: r, i => by
    rw [midx_cons, midx_cons]
    split
    · simp
    · rw [midx_shift a r (i + 1), midx_shift a r (0 + 1)]
      cases midx a r 0 <;> simp; omega
theorem mget_cons (a : α) (p : α × Value) (m : List (α × Value)) : mget a (p :: m) = if a = p.1 then some p.2 else mget a m := by
  show (midx a (p :: m) 0).map (·.2) = if a = p.1 then some p.2 else (midx a m 0).map (·.2)
  rw [midx_cons]
  split
  · rfl
  · rw [midx_shift a m (0 + 1)]; cases midx a m 0 <;> rfl
theorem mput_cons (a : α) (v : Value) (p : α × Value) (m : List (α × Value)) : mput a v (p :: m) = if a = p.1 then (a, v) :: m else p :: mput a v m := by
  have e : ∀ m' : List (α × Value), mput a v m' = match midx a m' 0 with | some (i, _) => m'.modify i (fun _ => (a, v)) | none => m' ++ [(a, v)] := fun _ => rfl
  rw [e, e m, midx_cons]
  by_cases h : a = p.1
  · rw [if_pos h, if_pos h]; rfl
  · rw [if_neg h, if_neg h, midx_shift a m (0 + 1)]
    cases midx a m 0 <;> rfl
theorem mget_mput (a c : α) (v : Value) : ∀ m : List (α × Value), mget c (mput a v m) = if c = a then some v else mget c m
  | [] => by
    show mget c [(a, v)] = _
    rw [mget_cons]
  | p :: m => by
    rw [mput_cons]
    by_cases h : a = p.1
    · rw [if_pos h, mget_cons, mget_cons]
      by_cases h2 : c = a
      · simp [h2]
      · rw [if_neg h2, if_neg h2, if_neg (by rw [← h]; exact h2)]
    · rw [if_neg h, mget_cons, mget_cons, mget_mput a c v m]
      by_cases h2 : c = p.1
      · rw [if_pos h2, if_pos h2]
        by_cases h3 : c = a
        · exact absurd (h3.symm.trans h2) h
        · rw [if_neg h3]
      · rw [if_neg h2, if_neg h2]

/-- what the model asks of a key's type -/
structure KeyOk (P : Program) (kt : TypeId) (K : α → Value) : Prop where
  check : ∀ (e : Bool) (a : α) (w : World), (Instr.checkKey e 10000 kt (K a)).run P w = .ok () w
  find : ∀ (a : α) (m : List (α × Value)) (es : List MapEntry) (w : World), es.map (fun e => (e.key, e.val)) = m.map (fun p => (K p.1, p.2)) → (Instr.findKey kt (K a) es).run P w = .ok (midx a m 0) w
  stays : ∀ (a : α) (w : World), (Instr.keyThatStays (K a) (K a)).run P w = .ok (K a) w

end

section
variable {α : Type}
/-- block b is a map that holds m -/
def MapIs (w : World) (b : Nat) (K : α → Value) (m : List (α × Value)) : Prop :=
  ∃ es clock, w.heap[b]? = some (.map es clock) ∧ es.toList.map (fun e => (e.key, e.val)) = m.map (fun p => (K p.1, p.2))

variable {w w' : World} {b : Nat} {K : α → Value} {m : List (α × Value)}
theorem MapIs.lt (h : MapIs w b K m) : b < w.heap.size := by obtain ⟨es, clock, hb, _⟩ := h; exact (Array.getElem?_eq_some_iff.1 hb).1
theorem MapIs.keep (h : MapIs w b K m) (hb : w'.heap[b]? = w.heap[b]?) : MapIs w' b K m := by obtain ⟨es, clock, h1, h2⟩ := h; exact ⟨es, clock, hb.trans h1, h2⟩
theorem MapIs.next (h : MapIs w b K m) (hb : Below w.heap.size w w') : MapIs w' b K m := h.keep (hb.block b h.lt)
theorem MapIs.alloc (h : MapIs w b K m) (o : Obj) : MapIs (w.alloc o) b K m := h.keep (Below.heap_alloc w o b h.lt)
theorem MapIs.drew (h : MapIs w b K m) : MapIs w.drew b K m := h
theorem MapIs.grown {row : Option Nat} (h : MapIs w b K m) (hg : w.grownBy w' row) (hne : some b ≠ row) : MapIs w' b K m := h.keep (hg.block b h.lt hne)
theorem MapIs.far (h : MapIs w b K m) {p : Addr} (hp : b ≠ p.block) (u : Value) : MapIs (w.setCell p u) b K m := h.keep (Below.heap_setCell w p u b hp)
theorem MapIs.made (w : World) (K : α → Value) : MapIs (w.alloc (.map #[] 0)) w.heap.size K [] := ⟨#[], 0, (MapKept.heap_alloc w _).1, rfl⟩
/-- a map's block is no slice's block -/
theorem MapIs.ne_own (h : MapIs w b K m) {base : Nat} {e : TypeId} {sz n : Nat} {v : Value} {xs : List Value} (ho : w.ownsRow base e sz v n xs) : some b ≠ v.ownBlock := by
  obtain ⟨es, clock, hb, _⟩ := h
  rcases ho.2 with ⟨rfl, _⟩ | ⟨g, cap, cur, rfl, _, hh, _⟩
  · simp [Value.ownBlock]
  · intro he
    have : b = g := by simpa [Value.ownBlock] using he
    subst this
    rw [hb] at hh; cases hh

end

section
variable {α : Type} [DecidableEq α] {P : Program} {w w' : World} {b : Nat} {K : α → Value} {m : List (α × Value)} {kt t e : TypeId}
theorem MapIs.look (h : MapIs w b K m) (KO : KeyOk P kt K) (ht : P.underlying t = some (.map kt e)) {z : Value} (hz : (zeroValue e).run P w = .ok z w) (a : α) :
    (Instr.lookup t (.map (some b)) (K a) false).run P w = .ok ((mget a m).getD z) w := by
  obtain ⟨es, clock, hb, he⟩ := h
  simp only [Instr.lookup]
  have hf := KO.find a m es.toList w he
  have hc := KO.check es.isEmpty a w
  cases hi : midx a m 0 with
  | none =>
    rw [hi] at hf
    simp [run_underlying ht, MapKept.run_getObj_map hb, hc, hf, hz, Result.andThen, mget, hi]
  | some p =>
    rw [hi] at hf
    simp [run_underlying ht, MapKept.run_getObj_map hb, hc, hf, Result.andThen, mget, hi]
theorem MapIs.lookOk (h : MapIs w b K m) (KO : KeyOk P kt K) (ht : P.underlying t = some (.map kt e)) {z : Value} (hz : (zeroValue e).run P w = .ok z w) (a : α) :
    (Instr.lookup t (.map (some b)) (K a) true).run P w = .ok (.tuple #[(mget a m).getD z, .bool (mget a m).isSome]) w := by
  obtain ⟨es, clock, hb, he⟩ := h
  simp only [Instr.lookup]
  have hf := KO.find a m es.toList w he
  have hc := KO.check es.isEmpty a w
  cases hi : midx a m 0 with
  | none =>
    rw [hi] at hf
    simp [run_underlying ht, MapKept.run_getObj_map hb, hc, hf, hz, Result.andThen, mget, hi]
  | some p =>
    rw [hi] at hf
    simp [run_underlying ht, MapKept.run_getObj_map hb, hc, hf, Result.andThen, mget, hi]
theorem modify_map {β γ : Type} (f : β → γ) (g : β → β) (g' : γ → γ) : ∀ (l : List β) (i : Nat), (∀ x, l[i]? = some x → f (g x) = g' (f x)) → (l.modify i g).map f = (l.map f).modify i g'
  | [], i, _ => by simp
  | x :: l, 0, h => by simp [h x rfl]
  | x :: l, i + 1, h => by
    rw [List.modify_succ_cons, List.map_cons, List.map_cons, List.modify_succ_cons, modify_map f g g' l i (fun y hy => h y (by simpa using hy))]
theorem midx_at (a : α) : ∀ (m : List (α × Value)) (i : Nat) (v : Value), midx a m 0 = some (i, v) → m[i]? = some (a, v)
  | [], i, v, h => by cases h
  | p :: r, i, v, h => by
    rw [midx_cons] at h
    split at h
    · rename_i h1
      simp at h
      obtain ⟨rfl, rfl⟩ := h
      rw [h1]; rfl
    · rw [midx_shift a r (0 + 1)] at h
      cases hq : midx a r 0 with
      | none => rw [hq] at h; cases h
      | some q =>
        obtain ⟨i', v'⟩ := q
        rw [hq] at h
        simp at h
        obtain ⟨rfl, rfl⟩ := h
        simpa using midx_at a r i' v' hq

/-- behind a store the map holds one entry more; nothing else has turned -/
theorem MapIs.put (h : MapIs w b K m) (KO : KeyOk P kt K) (ht : P.underlying t = some (.map kt e)) (a : α) (v : Value) :
    ∃ w', (Instr.mapUpdate t (.map (some b)) (K a) v).run P w = .ok () w' ∧ MapIs w' b K (mput a v m) ∧ w.grownBy w' (some b) ∧ w'.heap.size = w.heap.size := by
  obtain ⟨es, clock, hb, he⟩ := h
  have hlt := (Array.getElem?_eq_some_iff.1 hb).1
  have hf := KO.find a m es.toList w he
  have hc := KO.check false a w
  have hset : ∀ (es' : Array MapEntry) (cl : Nat), MapIs (setBlock w b (.map es' cl)) b K (mput a v m) ↔ es'.toList.map (fun e => (e.key, e.val)) = (mput a v m).map (fun p => (K p.1, p.2)) := by
    intro es' cl
    have hh : (setBlock w b (.map es' cl)).heap[b]? = some (.map es' cl) := by simp [setBlock, hlt]
    constructor
    · rintro ⟨es2, cl2, h1, h2⟩
      rw [hh] at h1
      cases h1
      exact h2
    · exact fun h2 => ⟨es', cl, hh, h2⟩
  have hg : ∀ o : Obj, w.grownBy (setBlock w b o) (some b) := fun o => ⟨rfl, rfl, rfl, by simp [setBlock], fun k hk hne => by
    simp only [setBlock]
    rw [Array.getElem?_setIfInBounds_ne (by intro e; exact hne (by rw [e]))]⟩
  have hsz : ∀ o : Obj, (setBlock w b o).heap.size = w.heap.size := fun o => by simp [setBlock]
  cases hi : midx a m 0 with
  | none =>
    rw [hi] at hf
    refine ⟨_, by simp [Instr.mapUpdate, run_underlying ht, MapKept.run_getObj_map hb, hc, hf, MapKept.run_setObj_map _ hb, Result.andThen]; rfl, ?_, hg _, hsz _⟩
    refine (hset _ _).2 ?_
    simp [mput, hi, he]
  | some q =>
    obtain ⟨i, v0⟩ := q
    rw [hi] at hf
    have hm := midx_at a m i v0 hi
    have hk : ∃ e0, es[i]? = some e0 ∧ e0.key = K a := by
      have h1 : (es.toList.map (fun e => (e.key, e.val)))[i]? = some (K a, v0) := by rw [he]; simp [hm]
      simp at h1
      obtain ⟨e0, h2, h3, _⟩ := h1
      exact ⟨e0, h2, h3⟩
    obtain ⟨e0, h2, h3⟩ := hk
    refine ⟨_, by simp [Instr.mapUpdate, run_underlying ht, MapKept.run_getObj_map hb, hc, hf, h2, h3, KO.stays a w, MapKept.run_setObj_map _ hb, Result.andThen]; rfl, ?_, hg _, hsz _⟩
    refine (hset _ _).2 ?_
    simp only [mput, hi]
    rw [Array.toList_modify, modify_map (fun e : MapEntry => (e.key, e.val)) _ (fun _ => (K a, v)) _ _ (fun _ _ => rfl), he,
      modify_map (fun p : α × Value => (K p.1, p.2)) (fun _ => (a, v)) (fun _ => (K a, v)) _ _ (fun _ _ => rfl)]
end

section
variable {α : Type} [DecidableEq α] {P : Program} {w0 w : World} {ops : Array Oper} {rest : List Oper} {o : Oper} {a : Act} {Q : Exit → Act → World → Prop} {b : Nat} {K : α → Value} {m : List (α × Value)} {kt t e : TypeId}
/-- a store into a map of the call's own, at the operation -/
theorem wpList_put (hgd : o.guard = none) (s k x : Operand) (ho : o.op = .mapUpdate t s k x) (KO : KeyOk P kt K) (ht : P.underlying t = some (.map kt e)) (hs : a.eval s = .map (some b)) (y : α) (v : Value) (hk : a.eval k = K y) (hx : a.eval x = v)
    (h : MapIs w b K m) (base : Nat) (hbase : base = w0.heap.size) (hbb : base ≤ b) (hb : Below base w0 w)
    (hK : ∀ w', MapIs w' b K (mput y v m) → w.grownBy w' (some b) → Below base w0 w' → wpList P ops Q rest (a.put o.dst undef) w') : wpList P ops Q (o :: rest) a w := by
  refine wpList_plain hgd fun _ hK' => ?_
  obtain ⟨w', hr, r1, r2, r3⟩ := h.put (P := P) KO ht y v
  unfold Oper.wp execOp
  simp only [ho, hs, hk, hx, Sem.run_bind, hr, Result.andThen_ok, Sem.run_pure]
  exact hK' _ _ (hK w' r1 r2 (hb.grown r2 (by rw [hbase]; exact hb.size) (fun k hk => by cases hk; exact hbb)))
end

end Go.Proofs.YtmdmgndhapdmgaaGreat


/-
  Rules and lengths: is a grammar valid, and how long are the words of its rules.
-/
namespace Go.Proofs.YtmdmgndhapdmgaaGreat
open Go.RowKit

def intE (z : Int) : List Value := [.int .i64 z]
/-- the length of one rule more; none if it is not right -/
def gStep (out : List Int) (r : Fac) : Option Int :=
  if r.l.size = 0 then
    (if 0 ≤ r.a ∧ r.a < out.length ∧ 0 ≤ r.b ∧ r.b < out.length ∧ out.getD r.a.toNat 0 + out.getD r.b.toNat 0 ≤ 1000000000000000 then some (out.getD r.a.toNat 0 + out.getD r.b.toNat 0) else none)
  else if letT r.l = true ∧ r.a = 0 ∧ r.b = 0 then some 1 else none
def gLens : List Fac → List Int → Option (List Int)
  | [], out => some out
  | r :: rs, out => (gStep out r).bind fun n => gLens rs (out ++ [n])
/-- the lengths of the words of all rules, if the grammar is valid -/
def gOk (rs : List Fac) : Option (List Int) := if 400 < rs.length then none else gLens rs []

theorem gLens_len : ∀ (rs : List Fac) (out ls : List Int), gLens rs out = some ls → ls.length = out.length + rs.length
  | [], out, ls, h => by obtain rfl := Option.some.inj h; simp
  | r :: rs, out, ls, h => by
    unfold gLens at h
    obtain ⟨n, _, h2⟩ := Option.bind_eq_some_iff.1 h
    have := gLens_len rs _ _ h2
    simp at this ⊢
    omega
theorem gStep_bound {out : List Int} {r : Fac} {n : Int} (h0 : ∀ x ∈ out, 1 ≤ x ∧ x ≤ 1000000000000000) (h : gStep out r = some n) : 1 ≤ n ∧ n ≤ 1000000000000000 := by
  unfold gStep at h
  split at h
  · split at h
    · rename_i hc
      obtain rfl := Option.some.inj h
      have ha : out.getD r.a.toNat 0 ∈ out := by rw [List.getD_eq_getElem?_getD, List.getElem?_eq_getElem (by omega)]; simp
      have hb : out.getD r.b.toNat 0 ∈ out := by rw [List.getD_eq_getElem?_getD, List.getElem?_eq_getElem (by omega)]; simp
      have := h0 _ ha
      have := h0 _ hb
      omega
    · cases h
  · split at h
    · obtain rfl := Option.some.inj h; omega
    · cases h

theorem elem_int : Elem Tryz.prog 61 2 1 8 := Elem.mk' (z := .int .i64 0) Tryz.underlying61 (by kernel_rfl) rfl

def isP (r : Fac) : Bool := decide (r.l.size = 0)
theorem isPair_any (r : Fac) (b : Bool) (w : World) (hb : isP r = b) :
    Calls Tryz.prog 33 #[r.val] w (Ret (.bool b) w) := by
  unfold isP at hb
  by_cases h : r.l.size = 0
  · have h0 := size0 h
    obtain rfl : b = true := by rw [← hb]; simpa using h
    clear hb h
    go_enter Tryz.func33, Tryz.ntmps33
    go_wp2
    go_ret
    exact ⟨rfl, by (repeat first | exact Below.refl _ _ | assumption | refine Below.drew ?_ | refine Below.alloc ?_ (by first | exact Nat.le_refl _ | (simp; done) | omega | (simp; omega)) _ | refine Below.setCell ?_ (by first | exact Nat.le_refl _ | (simp; done) | omega | (simp; omega)) _)⟩
  · have h0 := size1 h
    have h1 := size1' h
    obtain rfl : b = false := by rw [← hb]; simpa using h
    clear hb h
    go_enter Tryz.func33, Tryz.ntmps33
    go_wp2
    go_ret
    exact ⟨rfl, by (repeat first | exact Below.refl _ _ | assumption | refine Below.drew ?_ | refine Below.alloc ?_ (by first | exact Nat.le_refl _ | (simp; done) | omega | (simp; omega)) _ | refine Below.setCell ?_ (by first | exact Nat.le_refl _ | (simp; done) | omega | (simp; omega)) _)⟩

theorem gStep_no_a {out : List Int} {x : Fac} (h0 : x.l.size = 0) (ha : inB x.a 0 ((out.length : Int) - 1) = false) : gStep out x = none := by
  unfold gStep; rw [if_pos h0, if_neg (by simp [inB] at ha; omega)]
theorem gStep_no_b {out : List Int} {x : Fac} (h0 : x.l.size = 0) (hb : inB x.b 0 ((out.length : Int) - 1) = false) : gStep out x = none := by
  unfold gStep; rw [if_pos h0, if_neg (by simp [inB] at hb; omega)]
theorem gStep_no_c {out : List Int} {x : Fac} (h0 : x.l.size = 0) (hc : 1000000000000000 < out.getD x.a.toNat 0 + out.getD x.b.toNat 0) : gStep out x = none := by
  unfold gStep; rw [if_pos h0, if_neg (by omega)]
theorem gStep_pair {out : List Int} {x : Fac} (h0 : x.l.size = 0) (ha : inB x.a 0 ((out.length : Int) - 1) = true) (hb : inB x.b 0 ((out.length : Int) - 1) = true) (hc : out.getD x.a.toNat 0 + out.getD x.b.toNat 0 ≤ 1000000000000000) :
    gStep out x = some (out.getD x.a.toNat 0 + out.getD x.b.toNat 0) := by
  simp [inB] at ha hb
  unfold gStep; rw [if_pos h0, if_pos (by omega)]
theorem gStep_no_l {out : List Int} {x : Fac} (h0 : x.l.size ≠ 0) (h : ¬ (letT x.l = true ∧ x.a = 0 ∧ x.b = 0)) : gStep out x = none := by
  unfold gStep; rw [if_neg h0, if_neg h]
theorem gStep_let {out : List Int} {x : Fac} (h0 : x.l.size ≠ 0) (h : letT x.l = true ∧ x.a = 0 ∧ x.b = 0) : gStep out x = some 1 := by
  unfold gStep; rw [if_neg h0, if_pos h]
/-- an element of a list of numbers of the call's own -/
theorem own_int {w : World} {base e n c : Nat} {A : Option Addr} {out : List Int} (h : w.ownsRow base e 1 (.slice A n c) n (out.flatMap intE)) (hl : out.length = n) (i : Int) (h0 : 0 ≤ i) (h1 : i < n) :
    ∃ g, A = some ⟨g, 0, none⟩ ∧ base ≤ g ∧ g < w.heap.size ∧ w.cell? ⟨g, i.toNat, none⟩ = some (.int .i64 (out.getD i.toNat 0)) := by
  obtain ⟨g, cap, hv, hg, hs⟩ := h.form (by omega)
  injection hv with hA _ _
  subst hA
  refine ⟨g, rfl, hg, hs, ?_⟩
  rw [h.cellAt i.toNat (by omega)]
  have hx : out[i.toNat]? = some (out[i.toNat]'(by omega)) := List.getElem?_eq_getElem _
  have := flat_at (enc := intE) (sz := 1) out (fun _ _ => rfl) i.toNat _ hx 0 (by omega)
  rw [Nat.mul_one, Nat.add_zero] at this
  rw [this, List.getD_eq_getElem?_getD, hx]; rfl
theorem ret_sliceB {A : Option Addr} {n m c : Nat} {k : Bool} (h : n = m) : Ending.returned (.tuple #[.slice A n c, .bool k]) = .returned (.tuple #[.slice A m c, .bool k]) := by rw [h]
/-- what 'lengths' leaves -/
def LenPost (rs : List Fac) (w : World) (e : Ending) (w' : World) : Prop :=
  Below w.heap.size w w' ∧ ((∃ ls A c, gOk rs = some ls ∧ e = .returned (.tuple #[.slice A ls.length c, .bool true]) ∧ w'.ownsRow w.heap.size 2 1 (.slice A ls.length c) ls.length (ls.flatMap intE)) ∨
    (gOk rs = none ∧ ∃ A n c, e = .returned (.tuple #[.slice A n c, .bool false])))
theorem LenPost.no {rs : List Fac} {w w' : World} {A : Option Addr} {n c : Nat} (h : gOk rs = none) (hb : Below w.heap.size w w') : LenPost rs w (.returned (.tuple #[.slice A n c, .bool false])) w' :=
  ⟨hb, .inr ⟨h, A, n, c, rfl⟩⟩
theorem gOk_none {rs : List Fac} (h : gLens rs [] = none) : gOk rs = none := by unfold gOk; split <;> first | rfl | exact h

set_option maxHeartbeats 4000000 in
set_option maxRecDepth 100000 in
theorem lengths_any (A : Option Addr) (n c : Nat) (rs : List Fac) (w : World) (hn : n ≤ 100000000) (hr : Rd w w.heap.size A n 3 Fac.cells rs) (hok : ∀ f ∈ rs, f.l.size ≤ maxLen) :
    Calls Tryz.prog 53 #[.agg #[.slice A n c]] w (LenPost rs w) := by
  have hl := Lib.hid hr.len
  go_enter Tryz.func53, Tryz.ntmps53
  go_wp2
  go_loopw [4, 12] (fun o_ i_ w' => ∃ (k : Nat) (out : List Int) (A' : Option Addr) (c' : Nat), i_ = .int .i64 k ∧ o_ = .slice A' k c' ∧ k ≤ n ∧ Hid (out.length = k) ∧
      Hid (w'.ownsRow w.heap.size 2 1 (.slice A' k c') k (out.flatMap intE)) ∧ Hid (∀ x ∈ out, 1 ≤ x ∧ x ≤ 1000000000000000) ∧ Hid (Blk w' w.heap.size 31 #[.slice A n c]) ∧
      Below w.heap.size w w' ∧ Hid (gLens (rs.drop k) out = gLens rs [])) (fun _ i_ _ => n - (intOf i_).toNat)
  case atStart =>
    exact ⟨0, [], _, 0, rfl, rfl, by omega, Lib.hid rfl, Lib.hid (by simpa using World.ownsRow_made (base := w.heap.size) (e := 2) (size := 1) (w.alloc (.cells #[.slice A n c] 31)) #[] 0 (by simp) (by unfold maxLen; omega) rfl), Lib.hid (by simp), Lib.hid ((Blk.new _ _ _).alloc _), by (repeat first | exact Below.refl _ _ | assumption | refine Below.drew ?_ | refine Below.alloc ?_ (by first | exact Nat.le_refl _ | (simp; done) | omega | (simp; omega)) _ | refine Below.setCell ?_ (by first | exact Nat.le_refl _ | (simp; done) | omega | (simp; omega)) _), Lib.hid rfl⟩
  case round =>
    obtain ⟨k, out, A', c', rfl, rfl, hk, ho, hown, hbd, hblk, hb, H⟩ := hrel
    by_cases hlt : k < n
    · obtain ⟨b, o, x, rfl, hB, gx, c0, c1, c2⟩ := (hr.next hb).fac hlt
      have hxm : x.l.size ≤ maxLen := hok x (List.mem_of_getElem? gx)
      have H' := Lib.hid (show ((gStep out x).bind fun m => gLens (rs.drop (k + 1)) (out ++ [m])) = gLens rs [] by rw [← H.out, drop_cons gx]; rfl)
      clear gx H
      by_cases h0 : x.l.size = 0
      · go_wp2_with fail
        refine (isPair_any x true _ (by simpa [isP] using h0)).mono ?_
        rintro e w1 ⟨rfl, hb1⟩
        obtain ⟨d0, d1, d2⟩ := ((Blk.new wr _ _).next hb1).three
        have b1 := (hb.alloc hb.size _).trans (hb1.mono (by have := hb.size; simp; omega))
        rcases ha : inB x.a 0 ((k : Int) - 1) with _ | _
        · have Ha := Lib.hid ha; clear ha
          go_wp2_with (go_at_call 76; refine (within_any _ _ _ false _ Ha.out).mono ?_; rintro e w2 ⟨rfl, hb2⟩)
          go_ret2
          exact LenPost.no (gOk_none (by rw [← H'.out, gStep_no_a h0 (by rw [ho.out]; exact Ha.out)]; rfl)) (b1.trans (hb2.mono b1.size))
        · have ha' : 0 ≤ x.a ∧ x.a ≤ (k : Int) - 1 := by simpa [inB] using ha
          have ha0 := ha'.1; have ha1 := ha'.2; clear ha'
          have Ha := Lib.hid ha; clear ha
          rcases hbb : inB x.b 0 ((k : Int) - 1) with _ | _
          · have Hb := Lib.hid hbb; clear hbb
            go_wp2_with fail
            refine (within_any _ _ _ true _ Ha.out).mono ?_
            rintro e w2 ⟨rfl, hb2⟩
            obtain ⟨f0, f1, f2⟩ := (((Blk.new wr _ _).next hb1).next hb2).three
            clear d0 d1 d2
            have b2 := b1.trans (hb2.mono b1.size)
            go_wp2_with fail
            refine (within_any _ _ _ false _ Hb.out).mono ?_
            rintro e w3 ⟨rfl, hb3⟩
            go_wp2_with fail
            go_ret2
            exact LenPost.no (gOk_none (by rw [← H'.out, gStep_no_b h0 (by rw [ho.out]; exact Hb.out)]; rfl)) (b2.trans (hb3.mono b2.size))
          · have hb' : 0 ≤ x.b ∧ x.b ≤ (k : Int) - 1 := by simpa [inB] using hbb
            have hb0 := hb'.1; have hb1' := hb'.2; clear hb'
            have Hb := Lib.hid hbb; clear hbb
            go_wp2_with fail
            refine (within_any _ _ _ true _ Ha.out).mono ?_
            rintro e w2 ⟨rfl, hb2⟩
            obtain ⟨f0, f1, f2⟩ := (((Blk.new wr _ _).next hb1).next hb2).three
            clear d0 d1 d2
            have b2 := b1.trans (hb2.mono b1.size)
            go_wp2_with fail
            refine (within_any _ _ _ true _ Hb.out).mono ?_
            rintro e w3 ⟨rfl, hb3⟩
            obtain ⟨p0, p1, p2⟩ := ((((Blk.new wr _ _).next hb1).next hb2).next hb3).three
            clear f0 f1 f2
            have b3 := b2.trans (hb3.mono b2.size)
            have hz3 : wr.heap.size < w3.heap.size := ((((Blk.new wr _ _).next hb1).next hb2).next hb3).lt
            have own3 := Lib.hid (own_next (own_next (own_next (hown.out.alloc _) hb1) hb2) hb3)
            have blk3 := Lib.hid ((((hblk.out.alloc _).next hb1).next hb2).next hb3)
            obtain ⟨g, rfl, hg0, hg1, e1⟩ := own_int own3.out ho.out x.a ha0 (by omega)
            obtain ⟨g', hgg, _, _, e2⟩ := own_int own3.out ho.out x.b hb0 (by omega)
            obtain rfl : g = g' := by injection hgg with hgg; injection hgg
            clear hgg
            have bd1 := hbd.out (out.getD x.a.toNat 0) (by rw [List.getD_eq_getElem?_getD, List.getElem?_eq_getElem (by rw [ho.out]; omega)]; simp)
            have bd2 := hbd.out (out.getD x.b.toNat 0) (by rw [List.getD_eq_getElem?_getD, List.getElem?_eq_getElem (by rw [ho.out]; omega)]; simp)
            have Hc := Lib.hid (fun h => gStep_no_c (out := out) (x := x) h0 h)
            have Hp := Lib.hid (fun h => gStep_pair (out := out) (x := x) h0 (by rw [ho.out]; exact Ha.out) (by rw [ho.out]; exact Hb.out) h)
            generalize out.getD x.a.toNat 0 = y1 at *
            generalize out.getD x.b.toNat 0 = y2 at *
            have hup := upc w3.heap.size w3
            have i1 : x.a < (k : Int) := by omega
            have i2 : x.b < (k : Int) := by omega
            have bd10 := bd1.1; have bd11 := bd1.2; have bd20 := bd2.1; have bd21 := bd2.2
            clear bd1 bd2
            go_wp2_with fail
            refine wp_region_up w3.heap.size (by kernel_rfl) (by kernel_rfl) ?_
            repeat (go_big_quiet_step (fail))
            refine wpQuiet_nil ?_
            intro w4 hup_w4
            have hb4 := up_of hup_w4
            have b4 := b3.trans (hb4.mono b3.size)
            have own4 := Lib.hid (own_next own3.out hb4)
            have blk4 := Lib.hid (blk3.out.next hb4)
            by_cases hc : 1000000000000000 < y1 + y2
            · go_wp2_with fail
              go_ret2
              exact LenPost.no (gOk_none (by rw [← H'.out, Hc.out hc]; rfl)) b4
            · go_wp2_with
              (at_builtin
               refine wpList_push (w0 := w) rfl _ _ _ rfl w.heap.size 2 1 8 elem_int intE _ k c' out rfl (own4.out.alloc _) w4.heap.size (y1 + y2) #[.int .i64 (y1 + y2)] 2 (0, 0) rfl (heap_alloc_new _ _) rfl rfl (by simp [intE, Value.oneCell']) (by omega) (by omega) (by unfold maxLen; omega) rfl (b4.alloc b4.size _) ?_
               intro A9 c9 w9 own9 hg9 hat9 hb9
               have O9 := Lib.hid own9; clear own9)
              go_roundw
              case rel => exact ⟨k + 1, out ++ [y1 + y2], A9, c9, by go_num, rfl, by omega, Lib.hid (by rw [List.length_append, ho.out]; rfl), O9, Lib.hid (fun z hz => by
                rcases List.mem_append.1 hz with hz | hz
                · exact hbd.out z hz
                · simp at hz; omega), Lib.hid ((blk4.out.alloc _).grown hg9 (own_blk_ne own4.out blk4.out (by decide))), hb9, Lib.hid (by rw [← H'.out, Hp.out (by omega)]; rfl)⟩
              case measure => simp [intOf]; omega
      · have hisp : isP x = false := by simpa [isP] using h0
        have Hisp := Lib.hid hisp; clear hisp
        by_cases hs1 : x.l.size = 1
        · obtain ⟨cc, hcc⟩ := one_byte hs1
          obtain ⟨xl, xa, xb⟩ := x
          simp only at hcc c0 c1 c2 hs1 h0 hxm
          subst hcc
          clear hs1
          have hlT : letT ⟨#[cc]⟩ = letB cc := rfl
          rcases hlb : letB cc with _ | _
          · have HlT := Lib.hid (hlT.trans hlb)
            have Hlb := Lib.hid hlb; clear hlb hlT
            go_wp2_with fail
            refine (isPair_any _ false _ Hisp.out).mono ?_
            rintro e w1 ⟨rfl, hb1⟩
            obtain ⟨d0, d1, d2⟩ := ((Blk.new wr _ _).next hb1).three
            have b1 := (hb.alloc hb.size _).trans (hb1.mono (by have := hb.size; simp; omega))
            go_wp2_with fail
            refine (isLetter_any cc false _ Hlb.out).mono ?_
            rintro e w2 ⟨rfl, hb2⟩
            go_wp2_with fail
            go_ret2
            exact LenPost.no (gOk_none (by rw [← H'.out, gStep_no_l h0 (by rw [HlT.out]; simp)]; rfl)) (b1.trans (hb2.mono b1.size))
          · have HlT := Lib.hid (hlT.trans hlb)
            have Hlb := Lib.hid hlb; clear hlb hlT
            have H0 := Lib.hid h0; clear h0
            go_wp2_with fail
            refine (isPair_any _ false _ Hisp.out).mono ?_
            rintro e w1 ⟨rfl, hb1⟩
            obtain ⟨d0, d1, d2⟩ := ((Blk.new wr _ _).next hb1).three
            have b1 := (hb.alloc hb.size _).trans (hb1.mono (by have := hb.size; simp; omega))
            go_wp2_with fail
            refine (isLetter_any cc true _ Hlb.out).mono ?_
            rintro e w2 ⟨rfl, hb2⟩
            obtain ⟨f0, f1, f2⟩ := (((Blk.new wr _ _).next hb1).next hb2).three
            clear d0 d1 d2
            have b2 := b1.trans (hb2.mono b1.size)
            have own2 := Lib.hid (own_next (own_next (hown.out.alloc _) hb1) hb2)
            have blk2 := Lib.hid (((hblk.out.alloc _).next hb1).next hb2)
            by_cases ha : xa = 0
            · have ha' : (xa != 0) = false := by simp [ha]
              have Ha := Lib.hid ha; clear ha
              by_cases hbb : xb = 0
              · have hb' : (xb != 0) = false := by simp [hbb]
                have Hb := Lib.hid hbb; clear hbb
                have Hp := Lib.hid (gStep_let (out := out) (x := ⟨⟨#[cc]⟩, xa, xb⟩) H0.out ⟨HlT.out, Ha.out, Hb.out⟩)
                go_wp2_with
                  (at_builtin
                   refine wpList_push (w0 := w) rfl _ _ _ rfl w.heap.size 2 1 8 elem_int intE _ k c' out rfl (own2.out.alloc _) w2.heap.size 1 #[.int .i64 1] 2 (0, 0) rfl (heap_alloc_new _ _) rfl rfl (by simp [intE, Value.oneCell']) (by omega) (by omega) (by unfold maxLen; omega) rfl (b2.alloc b2.size _) ?_
                   intro A9 c9 w9 own9 hg9 hat9 hb9
                   have O9 := Lib.hid own9; clear own9)
                go_roundw
                case rel => exact ⟨k + 1, out ++ [1], A9, c9, by go_num, rfl, by omega, Lib.hid (by rw [List.length_append, ho.out]; rfl), O9, Lib.hid (fun z hz => by
                  rcases List.mem_append.1 hz with hz | hz
                  · exact hbd.out z hz
                  · simp at hz; omega), Lib.hid ((blk2.out.alloc _).grown hg9 (own_blk_ne own2.out blk2.out (by decide))), hb9, Lib.hid (by rw [← H'.out, Hp.out]; rfl)⟩
                case measure => simp [intOf]; omega
              · have hb' : (xb != 0) = true := by simp [hbb]
                have Hb := Lib.hid hbb; clear hbb
                go_wp2_with fail
                go_ret2
                exact LenPost.no (gOk_none (by rw [← H'.out, gStep_no_l H0.out (fun q => Hb.out q.2.2)]; rfl)) b2
            · have ha' : (xa != 0) = true := by simp [ha]
              have Ha := Lib.hid ha; clear ha
              go_wp2_with fail
              go_ret2
              exact LenPost.no (gOk_none (by rw [← H'.out, gStep_no_l H0.out (fun q => Ha.out q.2.1)]; rfl)) b2
        · have hs2 : ((x.l.size : Int) != 1) = true := by simp; omega
          have Hs := Lib.hid hs1; clear hs1
          go_wp2_with fail
          refine (isPair_any x false _ Hisp.out).mono ?_
          rintro e w1 ⟨rfl, hb1⟩
          obtain ⟨d0, d1, d2⟩ := ((Blk.new wr _ _).next hb1).three
          have b1 := (hb.alloc hb.size _).trans (hb1.mono (by have := hb.size; simp; omega))
          go_wp2_with fail
          go_ret2
          exact LenPost.no (gOk_none (by rw [← H'.out, gStep_no_l h0 (by rw [letT_not Hs.out]; simp)]; rfl)) b1
    · have c0 : wr.cell? ⟨w.heap.size, 0, none⟩ = some (.slice A n c) := hblk.out.cell 0
      have hz := hblk.out.lt
      have hfin : gLens rs [] = some out := by rw [← H.out, List.drop_of_length_le (by rw [hl.out]; omega)]; rfl
      have hkn : k = n := by omega
      have Hf := Lib.hid hfin; clear hfin
      have Hk := Lib.hid hkn; clear hkn
      have hup := upc wr.heap.size wr
      by_cases h4 : n ≤ 400
      · have hg : gOk rs = some out := by unfold gOk; rw [hl.out, if_neg (by omega)]; exact Hf.out
        have Hg := Lib.hid hg; clear hg
        have d4 : decide ((n : Int) ≤ 400) = true := decide_eq_true (by omega)
        go_wp2_with fail
        refine wp_region_up wr.heap.size (by kernel_rfl) (by kernel_rfl) ?_
        repeat (go_big_quiet_step (fail))
        refine wpQuiet_nil ?_
        intro w2 hup_w2
        have hb2 := up_of hup_w2
        go_wp2_with fail
        go_ret2
        refine ⟨hb.trans (hb2.mono hb.size), .inl ⟨out, A', c', Hg.out, ret_sliceB ho.out.symm, ?_⟩⟩
        rw [ho.out]
        exact own_next hown.out hb2
      · have hg : gOk rs = none := by unfold gOk; rw [hl.out, if_pos (by omega)]
        have Hg := Lib.hid hg; clear hg
        have d4 : decide ((n : Int) ≤ 400) = false := decide_eq_false (by omega)
        go_wp2_with fail
        refine wp_region_up wr.heap.size (by kernel_rfl) (by kernel_rfl) ?_
        repeat (go_big_quiet_step (fail))
        refine wpQuiet_nil ?_
        intro w2 hup_w2
        have hb2 := up_of hup_w2
        go_wp2_with fail
        go_ret2
        exact LenPost.no Hg.out (hb.trans (hb2.mono hb.size))
end Go.Proofs.YtmdmgndhapdmgaaGreat


/-
  Rules and lengths in the reference.
-/
namespace Go.Proofs.YtmdmgndhapdmgaaGreat
open Go.RowKit

theorem specIn_any (n lo hi : Int) (b : Bool) (w : World) (hb : inB n lo hi = b) :
    Calls Tryz.prog 64 #[.int .i64 n, .int .i64 lo, .int .i64 hi] w (Ret (.bool b) w) := by
  by_cases h1 : lo ≤ n
  · by_cases h2 : n ≤ hi
    all_goals
      have e := Lib.hid (show inB n lo hi = decide (n ≤ hi) by simp [inB, h1])
      have Hb := Lib.hid hb; clear hb
      go_enter Tryz.func64, Tryz.ntmps64
      go_wp2
      go_ret
      exact ⟨ret_bool (by rw [← Hb.out, e.out]; simp; omega), Below.refl _ _⟩
  · have e := Lib.hid (show inB n lo hi = false by simp [inB, h1])
    have Hb := Lib.hid hb; clear hb
    go_enter Tryz.func64, Tryz.ntmps64
    go_wp2
    go_ret
    exact ⟨ret_bool (by rw [← Hb.out, e.out]), Below.refl _ _⟩
/-- is a rule right at a place? -/
def gRight (x : Fac) (k : Int) : Bool := if x.l.size = 0 then inB x.a 0 (k - 1) && inB x.b 0 (k - 1) else letT x.l && decide (x.a = 0) && decide (x.b = 0)
theorem gRight_no {out : List Int} {x : Fac} (h : gRight x out.length = false) : gStep out x = none := by
  unfold gRight at h
  split at h
  · rename_i h0
    by_cases ha : inB x.a 0 ((out.length : Int) - 1) = true
    · exact gStep_no_b h0 (by simpa [ha] using h)
    · exact gStep_no_a h0 (by simpa using ha)
  · rename_i h0
    exact gStep_no_l h0 (fun q => by simp [q.1, q.2.1, q.2.2] at h)
theorem gRight_pair {out : List Int} {x : Fac} (h0 : x.l.size = 0) (h : gRight x out.length = true) : inB x.a 0 ((out.length : Int) - 1) = true ∧ inB x.b 0 ((out.length : Int) - 1) = true := by
  unfold gRight at h
  rw [if_pos h0] at h
  simpa using h
theorem gRight_let {out : List Int} {x : Fac} (h0 : x.l.size ≠ 0) (h : gRight x out.length = true) : gStep out x = some 1 := by
  unfold gRight at h
  rw [if_neg h0] at h
  exact gStep_let h0 (by simpa [and_assoc] using h)

set_option maxHeartbeats 400000 in
theorem l02Rule_any (b o : Nat) (x : Fac) (k : Int) (v : Bool) (w : World) (hB : b < w.heap.size) (c0 : w.cell? ⟨b, o, none⟩ = some (.string x.l)) (c1 : w.cell? ⟨b, o + 1, none⟩ = some (.int .i64 x.a)) (c2 : w.cell? ⟨b, o + 2, none⟩ = some (.int .i64 x.b))
    (hx : x.l.size ≤ maxLen) (hk0 : 0 ≤ k) (hk : k ≤ 100000000) (hv : gRight x k = v) :
    Calls Tryz.prog 87 #[.pointer (some ⟨b, o, none⟩), .int .i64 k] w (Ret (.bool v) w) := by
  by_cases h0 : x.l.size = 0
  · have e0 := size0 h0
    have hv' := Lib.hid (show (inB x.a 0 (k - 1) && inB x.b 0 (k - 1)) = v by rw [← hv]; unfold gRight; rw [if_pos h0])
    clear hv h0
    rcases ha : inB x.a 0 (k - 1) with _ | _
    · have Ha := Lib.hid ha; clear ha
      go_enter Tryz.func87, Tryz.ntmps87
      go_wp2_with (go_at_call 64; refine (specIn_any _ _ _ false _ Ha.out).mono ?_; rintro e w2 ⟨rfl, hb2⟩)
      go_ret
      exact ⟨ret_bool (by rw [← hv'.out, Ha.out]; rfl), hb2⟩
    · have Ha := Lib.hid ha; clear ha
      rcases hb : inB x.b 0 (k - 1) with _ | _
      all_goals
        have Hb := Lib.hid hb; clear hb
        go_enter Tryz.func87, Tryz.ntmps87
        go_wp2_with fail
        refine (specIn_any _ _ _ true _ Ha.out).mono ?_
        rintro e w2 ⟨rfl, hb2⟩
        obtain ⟨hc2, _⟩ := bcell hb2
        go_wp2_with fail
        refine (specIn_any _ _ _ _ _ Hb.out).mono ?_
        rintro e w3 ⟨rfl, hb3⟩
        go_wp2_with fail
        go_ret
        exact ⟨ret_bool (by rw [← hv'.out, Ha.out, Hb.out]; rfl), hb2.trans (hb3.mono hb2.size)⟩
  · have e1 := size1 h0
    have e2 := size1' h0
    by_cases hs1 : x.l.size = 1
    · obtain ⟨cc, hcc⟩ := one_byte hs1
      obtain ⟨xl, xa, xb⟩ := x
      simp only at hcc c0 c1 c2 hs1 h0 hx e1 e2
      subst hcc
      have hv' := Lib.hid (show (letB cc && decide (xa = 0) && decide (xb = 0)) = v by rw [← hv]; unfold gRight; rw [if_neg h0]; rfl)
      clear hv h0 hs1
      rcases hl : letB cc with _ | _
      · have Hl := Lib.hid hl; clear hl
        go_enter Tryz.func87, Tryz.ntmps87
        go_wp2_with fail
        refine (specOk_any _ false _ hx (by rw [okW_one]; exact Hl.out)).mono ?_
        rintro e w2 ⟨rfl, hb2⟩
        go_wp2_with fail
        go_ret
        exact ⟨ret_bool (by rw [← hv'.out, Hl.out]; rfl), hb2⟩
      · have Hl := Lib.hid hl; clear hl
        by_cases ha : xa = 0
        · have ha' : (xa == 0) = true := by simp [ha]
          have Ha := Lib.hid ha; clear ha
          go_enter Tryz.func87, Tryz.ntmps87
          go_wp2_with fail
          refine (specOk_any _ true _ hx (by rw [okW_one]; exact Hl.out)).mono ?_
          rintro e w2 ⟨rfl, hb2⟩
          obtain ⟨hc2, _⟩ := bcell hb2
          go_wp2_with fail
          go_ret
          exact ⟨ret_bool (by rw [← hv'.out, Hl.out, Ha.out, Bool.eq_iff_iff]; simp), hb2⟩
        · have ha' : (xa == 0) = false := by simp [ha]
          have Ha := Lib.hid ha; clear ha
          go_enter Tryz.func87, Tryz.ntmps87
          go_wp2_with fail
          refine (specOk_any _ true _ hx (by rw [okW_one]; exact Hl.out)).mono ?_
          rintro e w2 ⟨rfl, hb2⟩
          obtain ⟨hc2, _⟩ := bcell hb2
          go_wp2_with fail
          go_ret
          exact ⟨ret_bool (by rw [← hv'.out, decide_eq_false Ha.out]; simp), hb2⟩
    · have hs2 : ((x.l.size : Int) == 1) = false := by simp; omega
      have hv' := Lib.hid (show false = v by rw [← hv]; unfold gRight; rw [if_neg h0, letT_not hs1]; rfl)
      clear hv h0 hs1
      go_enter Tryz.func87, Tryz.ntmps87
      go_wp2_with fail
      go_ret
      exact ⟨ret_bool hv'.out, Below.refl _ _⟩
/-- what 'l02Sizes' leaves -/
def SizesPost (rs : List Fac) (w : World) (e : Ending) (w' : World) : Prop :=
  Below w.heap.size w w' ∧ ((∃ ls A c, gLens rs [] = some ls ∧ e = .returned (.tuple #[.slice A ls.length c, .bool true]) ∧ w'.ownsRow w.heap.size 2 1 (.slice A ls.length c) ls.length (ls.flatMap intE)) ∨
    (gLens rs [] = none ∧ ∃ A n c, e = .returned (.tuple #[.slice A n c, .bool false])))
theorem SizesPost.no {rs : List Fac} {w w' : World} {A : Option Addr} {n c : Nat} (h : gLens rs [] = none) (hb : Below w.heap.size w w') : SizesPost rs w (.returned (.tuple #[.slice A n c, .bool false])) w' :=
  ⟨hb, .inr ⟨h, A, n, c, rfl⟩⟩
set_option maxHeartbeats 4000000 in
set_option maxRecDepth 100000 in
theorem l02Sizes_any (gb : Nat) (A : Option Addr) (n c : Nat) (rs : List Fac) (w : World) (hg : gb < w.heap.size) (hc : w.cell? ⟨gb, 0, none⟩ = some (.slice A n c)) (hn : n ≤ 100000000) (hr : Rd w w.heap.size A n 3 Fac.cells rs) (hok : ∀ f ∈ rs, f.l.size ≤ maxLen) :
    Calls Tryz.prog 60 #[.pointer (some ⟨gb, 0, none⟩)] w (SizesPost rs w) := by
  have hl := Lib.hid hr.len
  go_enter Tryz.func60, Tryz.ntmps60
  go_wp2
  go_loopw [4, 5] (fun o_ i_ w' => ∃ (k : Nat) (out : List Int) (A' : Option Addr) (c' : Nat), i_ = .int .i64 k ∧ o_ = .slice A' k c' ∧ k ≤ n ∧ Hid (out.length = k) ∧
      Hid (w'.ownsRow w.heap.size 2 1 (.slice A' k c') k (out.flatMap intE)) ∧ Hid (∀ x ∈ out, 1 ≤ x ∧ x ≤ 1000000000000000) ∧
      Below w.heap.size w w' ∧ Hid (gLens (rs.drop k) out = gLens rs [])) (fun _ i_ _ => n - (intOf i_).toNat)
  case atStart =>
    exact ⟨0, [], _, 0, rfl, rfl, by omega, Lib.hid rfl, Lib.hid (by simpa using World.ownsRow_made (base := w.heap.size) (e := 2) (size := 1) w #[] 0 (Nat.le_refl _) (by unfold maxLen; omega) rfl), Lib.hid (by simp), by (repeat first | exact Below.refl _ _ | assumption | refine Below.drew ?_ | refine Below.alloc ?_ (by first | exact Nat.le_refl _ | (simp; done) | omega | (simp; omega)) _ | refine Below.setCell ?_ (by first | exact Nat.le_refl _ | (simp; done) | omega | (simp; omega)) _), Lib.hid rfl⟩
  case round =>
    obtain ⟨k, out, A', c', rfl, rfl, hk, ho, hown, hbd, hb, H⟩ := hrel
    have hc1 := (hb.cell (p := ⟨gb, 0, none⟩) hg).trans hc
    have hgr : gb < wr.heap.size := by have := hb.size; omega
    by_cases hlt : k < n
    · obtain ⟨b, o, x, rfl, hB, gx, c0, c1, c2⟩ := (hr.next hb).fac hlt
      have hxm : x.l.size ≤ maxLen := hok x (List.mem_of_getElem? gx)
      have H' := Lib.hid (show ((gStep out x).bind fun m => gLens (rs.drop (k + 1)) (out ++ [m])) = gLens rs [] by rw [← H.out, drop_cons gx]; rfl)
      clear gx H
      rcases hgr2 : gRight x k with _ | _
      · have Hgr := Lib.hid hgr2; clear hgr2
        go_wp2_with (go_at_call 87; refine (l02Rule_any b (o + k * 3) x k false _ hB c0 c1 c2 hxm (by omega) (by omega) Hgr.out).mono ?_; rintro e w2 ⟨rfl, hb2⟩)
        go_ret2
        exact SizesPost.no (by rw [← H'.out, gRight_no (by rw [ho.out]; exact Hgr.out)]; rfl) (hb.trans (hb2.mono hb.size))
      · have Hgr := Lib.hid hgr2; clear hgr2
        by_cases h0 : x.l.size = 0
        · have e0 := size0 h0
          have hpr := gRight_pair (out := out) h0 (by rw [ho.out]; exact Hgr.out)
          rw [ho.out] at hpr
          obtain ⟨ha, hbb⟩ := hpr
          have ha' : 0 ≤ x.a ∧ x.a ≤ (k : Int) - 1 := by simpa [inB] using ha
          have hb' : 0 ≤ x.b ∧ x.b ≤ (k : Int) - 1 := by simpa [inB] using hbb
          have ha0 := ha'.1; have ha1 := ha'.2; have hb0 := hb'.1; have hb1' := hb'.2; clear ha' hb'
          have Ha := Lib.hid ha; clear ha
          have Hb := Lib.hid hbb; clear hbb
          have h0' := Lib.hid h0; clear h0
          go_wp2_with fail
          refine (l02Rule_any b (o + k * 3) x k true _ hB c0 c1 c2 hxm (by omega) (by omega) Hgr.out).mono ?_
          rintro e w2 ⟨rfl, hb2⟩
          have b2 := hb.trans (hb2.mono hb.size)
          have d0 := (hb2.cell (p := ⟨b, o + k * 3, none⟩) hB).trans c0
          have d1 := (hb2.cell (p := ⟨b, o + k * 3 + 1, none⟩) hB).trans c1
          have d2 := (hb2.cell (p := ⟨b, o + k * 3 + 2, none⟩) hB).trans c2
          clear c0 c1 c2 hc1
          have own2 := Lib.hid (own_next hown.out hb2)
          obtain ⟨g, rfl, hg0, hg1, e1⟩ := own_int own2.out ho.out x.a ha0 (by omega)
          obtain ⟨g', hgg, _, _, e2⟩ := own_int own2.out ho.out x.b hb0 (by omega)
          obtain rfl : g = g' := by injection hgg with hgg; injection hgg
          clear hgg
          have bd1 := hbd.out (out.getD x.a.toNat 0) (by rw [List.getD_eq_getElem?_getD, List.getElem?_eq_getElem (by rw [ho.out]; omega)]; simp)
          have bd2 := hbd.out (out.getD x.b.toNat 0) (by rw [List.getD_eq_getElem?_getD, List.getElem?_eq_getElem (by rw [ho.out]; omega)]; simp)
          have Hc := Lib.hid (fun h => gStep_no_c (out := out) (x := x) h0'.out h)
          have Hp := Lib.hid (fun h => gStep_pair (out := out) (x := x) h0'.out (by rw [ho.out]; exact Ha.out) (by rw [ho.out]; exact Hb.out) h)
          generalize out.getD x.a.toNat 0 = y1 at *
          generalize out.getD x.b.toNat 0 = y2 at *
          have hup := upc w2.heap.size w2
          have hbz : b < w2.heap.size := by have := hb2.size; omega
          have i1 : x.a < (k : Int) := by omega
          have i2 : x.b < (k : Int) := by omega
          have bd10 := bd1.1; have bd11 := bd1.2; have bd20 := bd2.1; have bd21 := bd2.2
          clear bd1 bd2
          go_wp2_with fail
          refine wp_region_up w2.heap.size (by kernel_rfl) (by kernel_rfl) ?_
          repeat (go_big_quiet_step (fail))
          refine wpQuiet_nil ?_
          intro w4 hup_w4
          have hb4 := up_of hup_w4
          have b4 := b2.trans (hb4.mono b2.size)
          have own4 := Lib.hid (own_next own2.out hb4)
          by_cases hc : 1000000000000000 < y1 + y2
          · go_wp2_with fail
            go_ret2
            exact SizesPost.no (by rw [← H'.out, Hc.out hc]; rfl) b4
          · go_wp2_with
            (at_builtin
             refine wpList_push (w0 := w) rfl _ _ _ rfl w.heap.size 2 1 8 elem_int intE _ k c' out rfl (own4.out.alloc _) w4.heap.size (y1 + y2) #[.int .i64 (y1 + y2)] 2 (0, 0) rfl (heap_alloc_new _ _) rfl rfl (by simp [intE, Value.oneCell']) (by omega) (by omega) (by unfold maxLen; omega) rfl (b4.alloc b4.size _) ?_
             intro A9 c9 w9 own9 hg9 hat9 hb9
             have O9 := Lib.hid own9; clear own9)
            go_roundw
            case rel => exact ⟨k + 1, out ++ [y1 + y2], A9, c9, by go_num, rfl, by omega, Lib.hid (by rw [List.length_append, ho.out]; rfl), O9, Lib.hid (fun z hz => by
              rcases List.mem_append.1 hz with hz | hz
              · exact hbd.out z hz
              · simp at hz; omega), hb9, Lib.hid (by rw [← H'.out, Hp.out (by omega)]; rfl)⟩
            case measure => simp [intOf]; omega
        · have e0 := size1 h0
          have e0' := size1' h0
          have Hp := Lib.hid (gRight_let (out := out) h0 (by rw [ho.out]; exact Hgr.out))
          have H0 := Lib.hid h0; clear h0
          go_wp2_with fail
          refine (l02Rule_any b (o + k * 3) x k true _ hB c0 c1 c2 hxm (by omega) (by omega) Hgr.out).mono ?_
          rintro e w2 ⟨rfl, hb2⟩
          have b2 := hb.trans (hb2.mono hb.size)
          have d0 := (hb2.cell (p := ⟨b, o + k * 3, none⟩) hB).trans c0
          clear c0 c1 c2 hc1
          have own2 := Lib.hid (own_next hown.out hb2)
          go_wp2_with
            (at_builtin
             refine wpList_push (w0 := w) rfl _ _ _ rfl w.heap.size 2 1 8 elem_int intE _ k c' out rfl (own2.out.alloc _) w2.heap.size 1 #[.int .i64 1] 2 (0, 0) rfl (heap_alloc_new _ _) rfl rfl (by simp [intE, Value.oneCell']) (by omega) (by omega) (by unfold maxLen; omega) rfl (b2.alloc b2.size _) ?_
             intro A9 c9 w9 own9 hg9 hat9 hb9
             have O9 := Lib.hid own9; clear own9)
          go_roundw
          case rel => exact ⟨k + 1, out ++ [1], A9, c9, by go_num, rfl, by omega, Lib.hid (by rw [List.length_append, ho.out]; rfl), O9, Lib.hid (fun z hz => by
            rcases List.mem_append.1 hz with hz | hz
            · exact hbd.out z hz
            · simp at hz; omega), hb9, Lib.hid (by rw [← H'.out, Hp.out]; rfl)⟩
          case measure => simp [intOf]; omega
    · have hfin := Lib.hid (show gLens rs [] = some out by rw [← H.out, List.drop_of_length_le (by rw [hl.out]; omega)]; rfl)
      go_wp2_with fail
      go_ret2
      refine ⟨hb, .inl ⟨out, A', c', hfin.out, ret_sliceB ho.out.symm, ?_⟩⟩
      rw [ho.out]
      exact hown.out
end Go.Proofs.YtmdmgndhapdmgaaGreat


/-
  What is made of a grammar rule by rule: the plain part.
-/
namespace Go.Proofs.YtmdmgndhapdmgaaGreat

/-- the number of a letter -/
def letN (s : ByteArray) : Nat := match s.data.toList with | [c] => c.toNat - 97 | _ => 0
section
variable {α : Type} (d : α) (F : Nat → α) (G : α → α → Fac → α)
def fStep (out : List α) (r : Fac) : α := if r.l.size = 0 then G (out.getD r.a.toNat d) (out.getD r.b.toNat d) r else F (letN r.l)
def foldG : List Fac → List α → List α
  | [], out => out
  | r :: rs, out => foldG rs (out ++ [fStep d F G out r])
theorem foldG_app : ∀ (xs ys : List Fac) (out : List α), foldG d F G (xs ++ ys) out = foldG d F G ys (foldG d F G xs out)
  | [], _, _ => rfl
  | _ :: xs, ys, _ => foldG_app xs ys _
theorem foldG_len : ∀ (xs : List Fac) (out : List α), (foldG d F G xs out).length = out.length + xs.length
  | [], _ => by simp [foldG]
  | x :: xs, out => by
    show (foldG d F G xs (out ++ [fStep d F G out x])).length = _
    rw [foldG_len xs]; simp; omega
theorem foldG_snoc (xs : List Fac) (x : Fac) (out : List α) : foldG d F G (xs ++ [x]) out = foldG d F G xs out ++ [fStep d F G (foldG d F G xs out) x] := by
  rw [foldG_app]; rfl
/-- what is made of the rules ahead of rule k -/
def outs (rs : List Fac) (k : Nat) : List α := foldG d F G (rs.take k) []
theorem outs_len (rs : List Fac) (k : Nat) (h : k ≤ rs.length) : (outs d F G rs k).length = k := by
  unfold outs; rw [foldG_len]; simp; omega
theorem outs_step {rs : List Fac} {k : Nat} {r : Fac} (h : rs[k]? = some r) : outs d F G rs (k + 1) = outs d F G rs k ++ [fStep d F G (outs d F G rs k) r] := by
  unfold outs
  obtain ⟨hk, he⟩ := List.getElem?_eq_some_iff.1 h
  rw [List.take_succ_eq_append_getElem hk, foldG_snoc, he]
theorem outs_all (rs : List Fac) (k : Nat) (h : rs.length ≤ k) : outs d F G rs k = foldG d F G rs [] := by
  unfold outs; rw [List.take_of_length_le h]
/-- what was made of a rule, at any time behind it -/
theorem outs_at (rs : List Fac) : ∀ (k i : Nat), i < k → k ≤ rs.length → (outs d F G rs k)[i]? = (foldG d F G rs [])[i]? := by
  intro k i hi hk
  have e : foldG d F G rs [] = foldG d F G (rs.drop k) (outs d F G rs k) := by
    unfold outs; rw [← foldG_app, List.take_append_drop]
  have pre : ∀ (xs : List Fac) (out : List α), i < out.length → (foldG d F G xs out)[i]? = out[i]? := by
    intro xs
    induction xs with
    | nil => intro out _; rfl
    | cons x xs ih =>
      intro out h
      show (foldG d F G xs (out ++ [fStep d F G out x]))[i]? = _
      rw [ih _ (by simp; omega), List.getElem?_append_left h]
  rw [e, pre _ _ (by rw [outs_len d F G rs k hk]; exact hi)]
end

/-- each rule is a pair of earlier ones, or a letter -/
def WF (rs : List Fac) : Prop := ∀ (k : Nat) (r : Fac), rs[k]? = some r → (r.l.size = 0 ∧ 0 ≤ r.a ∧ r.a < k ∧ 0 ≤ r.b ∧ r.b < k) ∨ (∃ c, letB c = true ∧ r.l = ⟨#[c]⟩ ∧ r.a = 0 ∧ r.b = 0)
theorem letT_one {s : ByteArray} (h : letT s = true) : ∃ c, letB c = true ∧ s = ⟨#[c]⟩ := by
  by_cases h1 : s.size = 1
  · obtain ⟨c, rfl⟩ := one_byte h1
    exact ⟨c, h, rfl⟩
  · rw [letT_not h1] at h; cases h
theorem wf_go : ∀ (rs : List Fac) (out ls : List Int), gLens rs out = some ls → ∀ (k : Nat) (r : Fac), rs[k]? = some r →
    (r.l.size = 0 ∧ 0 ≤ r.a ∧ r.a < (out.length + k : Nat) ∧ 0 ≤ r.b ∧ r.b < (out.length + k : Nat)) ∨ (∃ c, letB c = true ∧ r.l = ⟨#[c]⟩ ∧ r.a = 0 ∧ r.b = 0)
  | [], _, _, _, k, r, h => by simp at h
  | x :: rs, out, ls, h, 0, r, hr => by
    obtain rfl : x = r := by simpa using hr
    unfold gLens at h
    obtain ⟨n, h1, _⟩ := Option.bind_eq_some_iff.1 h
    unfold gStep at h1
    split at h1
    · rename_i h0
      split at h1
      · rename_i hc; exact .inl ⟨h0, by simpa using hc.1, by simpa using hc.2.1, by simpa using hc.2.2.1, by simpa using hc.2.2.2.1⟩
      · cases h1
    · split at h1
      · rename_i hc
        obtain ⟨c, hc1, hc2⟩ := letT_one hc.1
        exact .inr ⟨c, hc1, hc2, hc.2⟩
      · cases h1
  | x :: rs, out, ls, h, k + 1, r, hr => by
    unfold gLens at h
    obtain ⟨n, h1, h2⟩ := Option.bind_eq_some_iff.1 h
    have := wf_go rs _ ls h2 k r (by simpa using hr)
    simp only [List.length_append, List.length_cons, List.length_nil] at this
    rcases this with h | h
    · exact .inl ⟨h.1, h.2.1, by have := h.2.2.1; omega, h.2.2.2.1, by have := h.2.2.2.2; omega⟩
    · exact .inr h
theorem wf_of {rs : List Fac} {ls : List Int} (h : gLens rs [] = some ls) : WF rs := fun k r hr => by simpa using wf_go rs [] ls h k r hr
theorem letB_num {c : UInt8} (h : letB c = true) : 97 ≤ (c.toNat : Int) ∧ (c.toNat : Int) ≤ 100 := by simpa [letB] using h
theorem letN_one (c : UInt8) : letN ⟨#[c]⟩ = c.toNat - 97 := rfl
theorem letN_lt {s : ByteArray} (h : letT s = true) : letN s < 4 := by
  obtain ⟨c, hc, rfl⟩ := letT_one h
  have := letB_num hc
  rw [letN_one]; omega
end Go.Proofs.YtmdmgndhapdmgaaGreat


/-
  Frames: what a call that writes one block of its caller's leaves alone.
-/
namespace Go.Proofs.YtmdmgndhapdmgaaGreat
open Go.RowKit

section
variable {w w1 w2 w' : World} {r : Option Nat} {g : Nat}
theorem gb_below (hb : Below w.heap.size w w') : w.grownBy w' r := ⟨hb.os, hb.tape, hb.output, hb.size, fun k hk _ => hb.block k hk⟩
theorem gb_trans (h1 : w.grownBy w1 r) (h2 : w1.grownBy w2 r) : w.grownBy w2 r :=
  ⟨h2.os.trans h1.os, h2.tape.trans h1.tape, h2.output.trans h1.output, Nat.le_trans h1.size h2.size, fun k hk hne => (h2.block k (Nat.lt_of_lt_of_le hk h1.size) hne).trans (h1.block k hk hne)⟩
theorem gb_next (h1 : w.grownBy w1 r) (h2 : Below w1.heap.size w1 w2) : w.grownBy w2 r := gb_trans h1 (gb_below h2)
theorem gb_set (w : World) (g i : Nat) (u : Value) : w.grownBy (w.setCell ⟨g, i, none⟩ u) (some g) :=
  ⟨rfl, rfl, rfl, by simp [World.setCell], fun k _ hne => Below.heap_setCell w _ u k (fun e => hne (by rw [e]))⟩
theorem gb_setCell (h : w.grownBy w1 (some g)) (i : Nat) (u : Value) : w.grownBy (w1.setCell ⟨g, i, none⟩ u) (some g) := gb_trans h (gb_set w1 g i u)
/-- a block that the call itself made later is free -/
theorem gb_weak {w0 : World} {k : Nat} (h1 : w0.grownBy w1 r) (h2 : w1.grownBy w2 (some k)) (hk : w0.heap.size ≤ k) : w0.grownBy w2 r :=
  ⟨h2.os.trans h1.os, h2.tape.trans h1.tape, h2.output.trans h1.output, Nat.le_trans h1.size h2.size, fun j hj hne => (h2.block j (Nat.lt_of_lt_of_le hj h1.size) (fun e => by injection e with e; omega)).trans (h1.block j hj hne)⟩
theorem gb_weak' {w0 : World} {row : Option Nat} (h1 : w0.grownBy w1 r) (h2 : w1.grownBy w2 row) (hk : ∀ k, row = some k → w0.heap.size ≤ k) : w0.grownBy w2 r :=
  ⟨h2.os.trans h1.os, h2.tape.trans h1.tape, h2.output.trans h1.output, Nat.le_trans h1.size h2.size, fun j hj hne => (h2.block j (Nat.lt_of_lt_of_le hj h1.size) (fun e => by have := hk j e.symm; omega)).trans (h1.block j hj hne)⟩
theorem Rd.grown {α : Type} {B n sz : Nat} {A : Option Addr} {enc : α → List Value} {xs : List α} (h : Rd w B A n sz enc xs) (hB : B ≤ w.heap.size) (hg : w.grownBy w' r) (hr : ∀ k, r = some k → B ≤ k) : Rd w' B A n sz enc xs :=
  h.keep fun p hp => hg.cell_far p (by omega) (fun e => by have := hr _ e.symm; omega)
end
section
variable {α : Type} {P : Program} {w : World} {ops : Array Oper} {rest : List Oper} {o : Oper} {a : Act} {Q : Exit → Act → World → Prop}
/-- one element more at the end of a slice of the call's own; no frame is asked -/
theorem wpList_pushG (hgd : o.guard = none) (s x : Operand) (t : TypeId) (ho : o.op = .call { callee := .builtin .append, args := #[s, x], argTypes := #[t, t] })
    (base : Nat) (e : TypeId) (sz bytes : Nat) (EI : Elem P t e sz bytes) (enc : α → List Value) (A : Option Addr) (n c : Nat) (xs : List α) (hs : a.eval s = .slice A n c)
    (hown : w.ownsRow base e sz (.slice A n c) n (xs.flatMap enc)) (g : Nat) (y : α) (cs : Array Value) (t' : TypeId) (fr : Nat × Nat) (hx : a.eval x = .slice (some ⟨g, 0, none⟩) 1 1) (hg : w.heap[g]? = some (.cells cs t' fr)) (hcs : cs.toList = enc y)
    (hlen : (enc y).length = sz) (hone : ∀ u ∈ enc y, u.oneCell' = true) (hsz : 0 < sz) (hbytes : (n + 1) * bytes ≤ 140737488355328) (hm : n + 1 ≤ maxLen) (hsize : base ≤ w.heap.size)
    (h : ∀ A' c' w', w'.ownsRow base e sz (.slice A' (n + 1) c') (n + 1) ((xs ++ [y]).flatMap enc) → w.grownBy w' (Value.slice A n c).ownBlock →
      ((Value.slice A' (n + 1) c').ownBlock = (Value.slice A n c).ownBlock ∨ (Value.slice A' (n + 1) c').ownBlock = some w.heap.size) → wpList P ops Q rest (a.put o.dst (.slice A' (n + 1) c')) w') : wpList P ops Q (o :: rest) a w := by
  obtain ⟨ht, i, z, hi, hz, h1, h2, hzs⟩ := EI
  have hnews : ∀ j u, (enc y)[j]? = some u → w.cell? ((⟨g, 0, none⟩ : Addr).add j) = some u := by rw [← hcs]; exact World.news_of_block hg
  refine wpList_plain hgd fun _ hK => ?_
  obtain ⟨v', w', hr, r2, r3, _, r5⟩ := run_append_own_at (P := P) w base t o.type e i z sz bytes ht hi hz h1 h2 hzs hsz _ n _ hown ⟨g, 0, none⟩ 1 1 (enc y) (by rw [hlen]; omega) hnews hone hm hbytes hsize
  obtain ⟨g', cap, rfl, _, _⟩ := r2.form (by omega)
  unfold Oper.wp execOp
  simp only [ho, resolve, invoke, builtin, Sem.run_bind, Sem.run_pure, Result.andThen_ok, List.map_toArray, List.map_cons, List.map_nil, hs, hx, hr]
  exact hK _ _ (h _ _ w' (by rw [List.flatMap_append]; simpa using r2) r3 r5)
end
/-- behind an append the slice that was appended to still reads as it did -/
theorem append_old {P : Program} {w w' : World} {t ty base e sz bytes n c m : Nat} {i : TypeInfo} {z : Value} {A : Option Addr} {v' : Value} {xs news : List Value} (ht : P.underlying t = some (.slice e)) (hi : P.info? e = some i) (hz : i.zero = some z) (hsz : i.size = sz) (hby : i.bytes = bytes)
    (hown : w.ownsRow base e sz (.slice A n c) n xs) (a : Addr) (cc : Nat) (hl : news.length = m * sz) (hnews : ∀ j u, news[j]? = some u → w.cell? (a.add j) = some u) (h1 : ∀ u ∈ news, u.oneCell' = true)
    (hm : n + m ≤ maxLen) (hbytes : (n + m) * bytes ≤ 140737488355328) (hr : (Builtin.append_ #[t, t] ty #[.slice A n c, .slice (some a) m cc]).run P w = .ok v' w')
    (hown' : w'.ownsRow base e sz v' (n + m) (xs ++ news)) : w'.ownsRow base e sz (.slice A n c) n xs := by
  subst hsz
  subst hby
  rcases hown.2 with ⟨hnil, hn0⟩ | ⟨g, cap, cur, hv, hbg, hh, hnc, hcm, hcs, htake⟩
  · rw [hnil]
    obtain rfl : xs = [] := List.eq_nil_of_length_eq_zero (by have := hown.1; rw [hn0] at this; simpa using this)
    subst hn0
    exact World.ownsRow_nil _ _ _ _
  · have hA : A = some ⟨g, 0, none⟩ := by injection hv
    have hc : c = cap := by injection hv
    subst hA hc
    by_cases hroom : n + m ≤ c
    · have hfit : n * i.size + news.length ≤ cur.size := by rw [hl, hcs, ← Nat.add_mul]; exact Nat.mul_le_mul_right _ hroom
      have h2 := run_append_room (P := P) w t ty e i ht hi g n c cur hh a m cc news hl hnews h1 hroom hfit
      rw [hr] at h2
      injection h2 with hv' hw'
      subst hv'
      rcases hown'.2 with ⟨hnil, _⟩ | ⟨g', cap', cur', hv2, hbg', hh', hnc', hcm', hcs', htake'⟩
      · cases hnil
      · have hg : g = g' := by injection hv2 with q; injection q with q; injection q
        have hc2 : c = cap' := by injection hv2
        subst hg hc2
        refine ⟨hown.1, .inr ⟨g, c, cur', rfl, hbg, hh', hnc, hcm, hcs', ?_⟩⟩
        have e1 : cur'.toList.take (n * i.size) = (cur'.toList.take ((n + m) * i.size)).take (n * i.size) := by
          rw [List.take_take, Nat.min_eq_left (Nat.mul_le_mul_right _ (Nat.le_add_right _ _))]
        rw [e1, htake', ← hown.1]
        exact List.take_left
    · have holds : ∀ j u, xs[j]? = some u → w.cell? ((⟨g, 0, none⟩ : Addr).add j) = some u := hown.cells (g := g) rfl
      have h2 := run_append_grow (P := P) w t ty e i z ht hi hz ⟨g, 0, none⟩ n c xs hown.1 holds a m cc news hl hnews (by omega) (by simp only [maxLen] at hm; omega) (growslice_fits (by omega) hbytes)
      rw [hr] at h2
      injection h2 with hv' hw'
      subst hw'
      refine ⟨hown.1, .inr ⟨g, c, cur, rfl, hbg, ?_, hnc, hcm, hcs, htake⟩⟩
      exact (Below.heap_alloc w.drew _ g (Array.getElem?_eq_some_iff.1 hh).1).trans hh
section
variable {α : Type} {P : Program} {w : World} {ops : Array Oper} {o : Oper} {a : Act} {K : Act → World → Prop} {Q : Exit → Act → World → Prop} {E : Prop}
/-- one element more, as a step of a region that draws its order -/
theorem step_push (hgd : o.guard = none) (s x : Operand) (t : TypeId) (ho : o.op = .call { callee := .builtin .append, args := #[s, x], argTypes := #[t, t] })
    (base : Nat) (e : TypeId) (sz bytes : Nat) (EI : Elem P t e sz bytes) (enc : α → List Value) (A : Option Addr) (n c : Nat) (xs : List α) (hs : a.eval s = .slice A n c)
    (hown : w.ownsRow base e sz (.slice A n c) n (xs.flatMap enc)) (g : Nat) (y : α) (cs : Array Value) (t' : TypeId) (fr : Nat × Nat) (hx : a.eval x = .slice (some ⟨g, 0, none⟩) 1 1) (hg : w.heap[g]? = some (.cells cs t' fr)) (hcs : cs.toList = enc y)
    (hlen : (enc y).length = sz) (hone : ∀ u ∈ enc y, u.oneCell' = true) (hsz : 0 < sz) (hbytes : (n + 1) * bytes ≤ 140737488355328) (hm : n + 1 ≤ maxLen) (hsize : base ≤ w.heap.size)
    (h : ∀ A' c' w', w'.ownsRow base e sz (.slice A' (n + 1) c') (n + 1) ((xs ++ [y]).flatMap enc) → w.grownBy w' (Value.slice A n c).ownBlock → w'.ownsRow base e sz (.slice A n c) n (xs.flatMap enc) →
      K (a.put o.dst (.slice A' (n + 1) c')) w') : if Region.wanted o (yielded ops a.tmps) = true then Oper.wp P o a w K Q else E := by
  obtain ⟨ht, i, z, hi, hz, h1, h2, hzs⟩ := EI
  have hnews : ∀ j u, (enc y)[j]? = some u → w.cell? ((⟨g, 0, none⟩ : Addr).add j) = some u := by rw [← hcs]; exact World.news_of_block hg
  obtain ⟨v', w', hr, r2, r3, _, _⟩ := run_append_own_at (P := P) w base t o.type e i z sz bytes ht hi hz h1 h2 hzs hsz _ n _ hown ⟨g, 0, none⟩ 1 1 (enc y) (by rw [hlen]; omega) hnews hone hm hbytes hsize
  have r5 := append_old ht hi hz h1 h2 hown ⟨g, 0, none⟩ 1 (by rw [hlen]; omega) hnews hone hm hbytes hr r2
  obtain ⟨g', cap, rfl, _, _⟩ := r2.form (by omega)
  have hw : Region.wanted o (yielded ops a.tmps) = true := by simp [Region.wanted, hgd]
  rw [if_pos hw]
  unfold Oper.wp execOp
  simp only [ho, resolve, invoke, builtin, Sem.run_bind, Sem.run_pure, Result.andThen_ok, List.map_toArray, List.map_cons, List.map_nil, hs, hx, hr]
  exact h _ _ w' (by rw [List.flatMap_append]; simpa using r2) r3 r5
end
/-- a row of the call's own, behind what writes another block -/
theorem own_kept {w w' : World} {base : Nat} {e : TypeId} {sz n : Nat} {v : Value} {xs : List Value} {g : Nat} (h : w.ownsRow base e sz v n xs) (hg : w.grownBy w' (some g)) (hlt : g < base) : w'.ownsRow base e sz v n xs := by
  refine h.kept hg ?_
  cases hv : v.ownBlock with
  | none => exact .inl rfl
  | some k => refine .inr fun e => ?_; have := (h.lt k hv).1; injection e with e; omega
theorem own_ge {w : World} {base : Nat} {e : TypeId} {sz n : Nat} {v : Value} {xs : List Value} (h : w.ownsRow base e sz v n xs) : ∀ k, v.ownBlock = some k → base ≤ k := fun k hk => (h.lt k hk).1
/-- an element's cell of a row of the call's own -/
theorem own_at {α : Type} {w : World} {base e sz n c g : Nat} {enc : α → List Value} {out : List α} (hlen : ∀ x ∈ out, (enc x).length = sz) (h : w.ownsRow base e sz (.slice (some ⟨g, 0, none⟩) n c) n (out.flatMap enc)) (hl : out.length = n) (d : α) (i : Nat) (hi : i < n) (j : Nat) (hj : j < sz) :
    w.cell? ⟨g, i * sz + j, none⟩ = (enc (out.getD i d))[j]? := by
  have hlt : i * sz + j < n * sz := by
    have : (i + 1) * sz ≤ n * sz := Nat.mul_le_mul_right _ hi
    rw [Nat.succ_mul] at this; omega
  rw [h.cellAt _ hlt]
  have hx : out[i]? = some (out[i]'(by omega)) := List.getElem?_eq_getElem _
  rw [flat_at out hlen i _ hx j hj, List.getD_eq_getElem?_getD, hx]; rfl
/-- the world under a name -/
theorem named {P : Program} {c : Code} {Q : Exit → Act → World → Prop} {a : Act} {W : World} (h : ∀ w, Hid (w = W) → c.wp P Q a w) : c.wp P Q a W := h W (Lib.hid rfl)
theorem namedC {P : Program} {f : FuncId} {args : Array Value} {Q : Ending → World → Prop} {W : World} (h : ∀ w, Hid (w = W) → Calls P f args w Q) : Calls P f args W Q := h W (Lib.hid rfl)

/-! ### what a region that draws its order keeps: the caller's memory, a row of the call's own, and the blocks from lo on -/
section
variable {w w1 wc w' : World} {lo e sz n : Nat} {v : Value} {xs : List Value}
end
end Go.Proofs.YtmdmgndhapdmgaaGreat


/-
  impl.folded at int64: what it makes of a grammar, by the contracts of the two functions that it is handed.
-/
namespace Go.Proofs.YtmdmgndhapdmgaaGreat
open Go.RowKit

/-- a function of the program's own, that can be called by its value -/
def EnterOk (f : FuncId) : Prop := ∀ (args : Array Value) (w : World), Sem.run Tryz.prog (callFunc f args) w = .ok (.enter f args) w
theorem enterOk {f : FuncId} {fn : Func} (h : Tryz.prog.funcs[f]? = some fn) (h1 : (fn.name == "runtime.NumGoroutine") = false) (h2 : fn.body.isNone = false) : EnterOk f := by
  intro args w
  have h3 : ¬ fn.name = "runtime.NumGoroutine" := by simpa using h1
  have h4 : ¬ fn.body = none := by intro e; rw [e] at h2; cases h2
  simp [callFunc, h, h3, h4]

end Go.Proofs.YtmdmgndhapdmgaaGreat


/-
  slices.IndexFunc and slices.ContainsFunc over rules, by the contract of the function that they are handed.
-/
namespace Go.Proofs.YtmdmgndhapdmgaaGreat
open Go.RowKit

def findI {α : Type} (p : α → Bool) : List α → Int → Int
  | [], _ => -1
  | x :: r, i => if p x = true then i else findI p r (i + 1)
theorem findI_any {α : Type} (p : α → Bool) : ∀ (xs : List α) (i : Int), 0 ≤ i → (decide (0 ≤ findI p xs i) = xs.any p)
  | [], i, _ => rfl
  | x :: r, i, h => by
    unfold findI
    by_cases hp : p x = true
    · rw [if_pos hp]; simp [hp, h]
    · rw [if_neg hp, findI_any p r (i + 1) (by omega)]; simp [hp]

end Go.Proofs.YtmdmgndhapdmgaaGreat


/-
  A new slice of four numbers.
-/
namespace Go.Proofs.YtmdmgndhapdmgaaGreat
open Go.RowKit

end Go.Proofs.YtmdmgndhapdmgaaGreat


/-
  Lists of numbers copied and compared.
-/
namespace Go.Proofs.YtmdmgndhapdmgaaGreat
open Go.RowKit

end Go.Proofs.YtmdmgndhapdmgaaGreat


/-
  slices.ContainsFunc over numbers, by the contract of the function that it is handed.
-/
namespace Go.Proofs.YtmdmgndhapdmgaaGreat
open Go.RowKit

set_option maxHeartbeats 1000000 in
theorem indexInt_any (fp : Nat) (ep : EnterOk fp) (cp : Array Value) (p : Int → Bool) (A : Option Addr) (n c : Nat) (zs : List Int) (w : World) (hn : n ≤ 1048576) (hr : Rd w w.heap.size A n 1 intE zs)
    (hP : ∀ (k : Nat) (x : Int), zs[k]? = some x → ∀ w', Below w.heap.size w w' → Calls Tryz.prog fp (#[.int .i64 x] ++ cp) w' (Ret (.bool (p x)) w')) :
    Calls Tryz.prog 95 #[.slice A n c, .func (.func fp) #[] cp] w (Ret (.int .i64 (findI p zs 0)) w) := by
  have hl := Lib.hid hr.len
  have HP := Lib.hid hP; clear hP
  unfold EnterOk at ep
  go_enter Tryz.func95, Tryz.ntmps95
  go_wp2_with fail
  go_loopw [8] (fun i_ w' => ∃ k : Nat, i_ = .int .i64 k ∧ k ≤ n ∧ Below w.heap.size w w' ∧ Hid (findI p (zs.drop k) k = findI p zs 0)) (fun i_ _ => n - (intOf i_).toNat)
  case atStart => exact ⟨0, rfl, by omega, Below.refl _ _, Lib.hid rfl⟩
  case round =>
    obtain ⟨k, rfl, hk, hb, H⟩ := hrel
    by_cases hlt : k < n
    · obtain ⟨b, o, x, rfl, hB, gx, c0⟩ := (show Rd wr wr.heap.size A n 1 (fun s => [.int .i64 s]) zs from hr.next hb).int hlt
      have H' := Lib.hid (show (if p x = true then (k : Int) else findI p (zs.drop (k + 1)) (k + 1)) = findI p zs 0 by rw [← H.out, drop_cons gx]; rfl)
      have hc := HP.out k x gx wr hb
      clear gx H
      rcases hp : p x with _ | _
      all_goals
        rw [hp] at hc
        have Hp := Lib.hid hp; clear hp
        have Hc := Lib.hid hc; clear hc
        go_wp2_with fail
        refine Hc.out.mono ?_
        rintro e w1 ⟨rfl, hb1⟩
        go_wp2_with fail
        first
          | (go_ret
             exact ⟨ret_int (by rw [← H'.out, Hp.out]; rfl), hb.trans (hb1.mono hb.size)⟩)
          | (go_roundw
             case rel => exact ⟨k + 1, by go_num, by omega, hb.trans (hb1.mono hb.size), Lib.hid (by rw [← H'.out, Hp.out]; rfl)⟩
             case measure => simp [intOf]; omega)
    · go_wp2_with fail
      go_ret
      exact ⟨ret_int (by rw [← H.out, List.drop_of_length_le (by rw [hl.out]; omega)]; rfl), hb⟩
theorem containsInt_any (fp : Nat) (ep : EnterOk fp) (cp : Array Value) (p : Int → Bool) (A : Option Addr) (n c : Nat) (zs : List Int) (w : World) (hn : n ≤ 1048576) (hr : Rd w w.heap.size A n 1 intE zs)
    (hP : ∀ (k : Nat) (x : Int), zs[k]? = some x → ∀ w', Below w.heap.size w w' → Calls Tryz.prog fp (#[.int .i64 x] ++ cp) w' (Ret (.bool (p x)) w')) :
    Calls Tryz.prog 79 #[.slice A n c, .func (.func fp) #[] cp] w (Ret (.bool (zs.any p)) w) := by
  have e := Lib.hid (findI_any p zs 0 (by omega))
  have Hc := Lib.hid (indexInt_any fp ep cp p A n c zs w hn hr hP)
  clear hP hr
  go_enter Tryz.func79, Tryz.ntmps79
  go_wp2_with fail
  refine Hc.out.mono ?_
  rintro e1 w1 ⟨rfl, hb1⟩
  go_wp2_with fail
  go_ret
  exact ⟨ret_bool e.out, hb1⟩
end Go.Proofs.YtmdmgndhapdmgaaGreat


/-
  The marks that the laws lay into results, and whether they are still there.
-/
namespace Go.Proofs.YtmdmgndhapdmgaaGreat
open Go.RowKit

def digB (k : Nat) : UInt8 := UInt8.ofNat (48 + k % 10)
/-- the digits of a number, ahead of a text -/
def mtGo (k : Nat) (out : ByteArray) : ByteArray :=
  if 0 < k then mtGo (k / 10) ((⟨#[digB k]⟩ : ByteArray) ++ out) else out
termination_by k
decreasing_by omega
def mt (k : Nat) : ByteArray := if k = 0 then ⟨#[109, 48]⟩ else (⟨#[109]⟩ : ByteArray) ++ mtGo k ⟨#[]⟩

def strEM (s : ByteArray) : List Value := [.string s]
/-- the marks from k on -/
def marks (k : Nat) : Nat → List ByteArray
  | 0 => []
  | n + 1 => mt k :: marks (k + 1) n
end Go.Proofs.YtmdmgndhapdmgaaGreat


/-
  The marks that the laws lay into lists of numbers and of rules.
-/
namespace Go.Proofs.YtmdmgndhapdmgaaGreat
open Go.RowKit

/-- two rows of different element types do not share a block -/
theorem own_ne {w : World} {b1 b2 e1 e2 s1 s2 n1 n2 : Nat} {v1 v2 : Value} {xs1 xs2 : List Value} (h1 : w.ownsRow b1 e1 s1 v1 n1 xs1) (h2 : w.ownsRow b2 e2 s2 v2 n2 xs2) (hne : e1 ≠ e2) : v1.ownBlock = none ∨ v1.ownBlock ≠ v2.ownBlock := by
  rcases h1.2 with ⟨rfl, _⟩ | ⟨g1, c1, u1, rfl, _, hh1, _⟩
  · left; rfl
  · right
    rcases h2.2 with ⟨rfl, _⟩ | ⟨g2, c2, u2, rfl, _, hh2, _⟩
    · simp [Value.ownBlock]
    · intro he
      have hg : g1 = g2 := by simpa [Value.ownBlock] using he
      subst hg
      rw [hh1] at hh2
      injection hh2 with hh2
      injection hh2 with _ ht
      exact hne ht
theorem own_setI {w : World} {base : Nat} {e : TypeId} {sz n c g : Nat} {xs : List Value} (h : w.ownsRow base e sz (.slice (some ⟨g, 0, none⟩) n c) n xs) (i : Nat) (u : Value) :
    (w.setCell ⟨g, i, none⟩ u).ownsRow base e sz (.slice (some ⟨g, 0, none⟩) n c) n (xs.set i u) := (h.stored i u).1
end Go.Proofs.YtmdmgndhapdmgaaGreat
