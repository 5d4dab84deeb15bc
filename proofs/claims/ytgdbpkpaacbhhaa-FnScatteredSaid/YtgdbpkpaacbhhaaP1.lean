/-
  Texts of this claim, merged: Rule GramL Make Letg Mark MarkI Ints Tabs ScatM FoldQ Cnt Lett Cens Pieces.
-/
import Derived.Test.YtgdbpkpaacbhhaaP0
import Derived.Deep.RegionHeld3
import Derived.Laws.EntriesVeiled


/-
  What the laws' helpers on lists of rules do: sizes, copies and equality.
-/
namespace Go.Proofs.Ytgdbpkpaacbhhaa
open Go.RowKit

theorem neq_rule (f g : Fac) (W : World) : (binOp .neq 82 (.agg #[.string f.l, .int .i64 f.a, .int .i64 f.b]) (.agg #[.string g.l, .int .i64 g.a, .int .i64 g.b])).run Try.prog W = .ok (.bool (!decide (f = g))) W := by
  rw [eq_fac]
  simp [go_sem, tl_inj]
  by_cases h1 : f.l = g.l <;> by_cases h2 : f.a = g.a <;> by_cases h3 : f.b = g.b <;> simp [h1, h2, h3]

theorem info_iRule : (Try.prog.info? 82).map (fun i => (i.zero, i.size, i.bytes)) = some (some (.agg #[.string .empty, .int .i64 0, .int .i64 0]), 3, 32) := by kernel_rfl
end Go.Proofs.Ytgdbpkpaacbhhaa


/-
  Is a grammar valid, how long is its word: the small functions, in the program and in the reference; copies and equality of grammars in the laws.
-/
namespace Go.Proofs.Ytgdbpkpaacbhhaa
open Go.RowKit

def lastI (l : List Int) : Int := l.getD (l.length - 1) 0
theorem gOk_lens {rs : List Fac} {ls : List Int} (h : gOk rs = some ls) : gLens rs [] = some ls ∧ rs.length ≤ 400 ∧ ls.length = rs.length := by
  unfold gOk at h
  split at h
  · cases h
  · have := gLens_len rs [] ls h
    exact ⟨h, by omega, by simpa using this⟩
section
variable (gb : Nat) (A : Option Addr) (n c : Nat) (rs : List Fac) (w : World) (hg : gb < w.heap.size) (hc : w.cell? ⟨gb, 0, none⟩ = some (.slice A n c)) (hn : n ≤ 100000000) (hr : Rd w w.heap.size A n 3 Fac.cells rs) (hok : ∀ f ∈ rs, f.l.size ≤ maxLen)
include hg hc hn hr hok
set_option maxHeartbeats 400000 in
theorem l02Lengths_any : Calls Try.prog 56 #[.pointer (some ⟨gb, 0, none⟩)] w (LenPost rs w) := by
  have hl := Lib.hid hr.len
  by_cases h4 : 400 < n
  · have e := Lib.hid (show gOk rs = none by unfold gOk; rw [hl.out, if_pos h4])
    go_enter Try.func56, Try.ntmps56
    go_wp2_with fail
    go_ret2
    exact LenPost.no e.out (by (repeat first | exact Below.refl _ _ | assumption | refine Below.drew ?_ | refine Below.alloc ?_ (by first | exact Nat.le_refl _ | (simp; done) | omega | (simp; omega)) _ | refine Below.setCell ?_ (by first | exact Nat.le_refl _ | (simp; done) | omega | (simp; omega)) _))
  · have e := Lib.hid (show gOk rs = gLens rs [] by unfold gOk; rw [hl.out, if_neg h4])
    go_enter Try.func56, Try.ntmps56
    go_wp2_with fail
    refine (l02Sizes_any gb A n c rs _ hg hc hn hr hok).mono ?_
    rintro e' w1 ⟨hb1, ⟨ls, A', c', hgl, rfl, hown⟩ | ⟨hgl, A', n', c', rfl⟩⟩
    · have Hgl := Lib.hid hgl; clear hgl
      go_wp2_with fail
      go_ret2
      exact ⟨hb1, .inl ⟨ls, A', c', e.out.trans Hgl.out, rfl, hown⟩⟩
    · have Hgl := Lib.hid hgl; clear hgl
      go_wp2_with fail
      go_ret2
      exact LenPost.no (e.out.trans Hgl.out) hb1
theorem l02Ok_any (b : Bool) (hb : (gOk rs).isSome = b) : Calls Try.prog 34 #[.pointer (some ⟨gb, 0, none⟩)] w (Ret (.bool b) w) := by
  have Hb := Lib.hid hb; clear hb
  go_enter Try.func34, Try.ntmps34
  go_wp2_with fail
  refine (l02Lengths_any gb A n c rs _ hg hc hn hr hok).mono ?_
  rintro e w1 ⟨hb1, ⟨ls, A', c', hg, rfl, hown⟩ | ⟨hg, A', n', c', rfl⟩⟩
  · have e1 := Lib.hid (show true = b by rw [← Hb.out, hg]; rfl)
    clear hg
    go_wp2_with fail
    go_ret
    exact ⟨ret_bool e1.out, hb1⟩
  · have e1 := Lib.hid (show false = b by rw [← Hb.out, hg]; rfl)
    clear hg
    go_wp2_with fail
    go_ret
    exact ⟨ret_bool e1.out, hb1⟩
theorem l02Length_any (ls : List Int) (hls : gLens rs [] = some ls) : Calls Try.prog 35 #[.pointer (some ⟨gb, 0, none⟩)] w (Ret (.int .i64 (lastI ls)) w) := by
  have Hls := Lib.hid hls; clear hls
  go_enter Try.func35, Try.ntmps35
  go_wp2_with fail
  refine (l02Sizes_any gb A n c rs _ hg hc hn hr hok).mono ?_
  rintro e w1 ⟨hb1, ⟨ls', A', c', hg, rfl, hown⟩ | ⟨hg, _⟩⟩
  · obtain rfl : ls = ls' := by rw [Hls.out] at hg; exact Option.some.inj hg
    clear hg
    have Own := Lib.hid hown; clear hown
    by_cases h0 : ls.length = 0
    · have e1 := Lib.hid (show lastI ls = 0 by unfold lastI; rw [List.getD_eq_getElem?_getD, List.getElem?_eq_none (by omega)]; rfl)
      go_wp2_with fail
      go_ret
      exact ⟨ret_int e1.out.symm, hb1⟩
    · have h1 : 0 < ls.length := by omega
      have hle : ls.length ≤ 100000000 := by
        have := gLens_len rs [] ls Hls.out
        have := hr.len
        simp at *; omega
      have e1 := Lib.hid (show lastI ls = ls.getD ((ls.length : Int) - 1).toNat 0 by unfold lastI; congr 1; omega)
      obtain ⟨g, rfl, _, hlt, c1⟩ := own_int Own.out rfl ((ls.length : Int) - 1) (by omega) (by omega)
      have h0' : ¬ ((ls.length : Int) = 0) := by omega
      have h0b : ((ls.length : Int) == 0) = false := by simpa using h0'
      have c2 : w1.cell? ⟨g, ls.length - 1, none⟩ = some (.int .i64 (ls.getD ((ls.length : Int) - 1).toNat 0)) := by rw [← c1]; congr 2; omega
      clear h0 c1
      generalize ls.getD ((ls.length : Int) - 1).toNat 0 = z at *
      go_wp2_with fail
      go_ret
      exact ⟨ret_int e1.out.symm, hb1⟩
  · rw [Hls.out] at hg; cases hg
end
theorem last_any (A : Option Addr) (n c : Nat) (ls : List Int) (w : World) (hn : n ≤ 100000000) (hr : Rd w w.heap.size A n 1 intE ls) :
    Calls Try.prog 48 #[.slice A n c] w (Ret (.int .i64 (lastI ls)) w) := by
  have hl := Lib.hid hr.len
  by_cases h0 : n = 0
  · subst h0
    have e1 := Lib.hid (show lastI ls = 0 by unfold lastI; rw [List.getD_eq_getElem?_getD, List.getElem?_eq_none (by rw [hl.out]; omega)]; rfl)
    go_enter Try.func48, Try.ntmps48
    go_wp2_with fail
    go_ret
    exact ⟨ret_int e1.out.symm, Below.refl _ _⟩
  · have h0b : ((n : Int) == 0) = false := by simpa using h0
    obtain ⟨b, o, x, rfl, hB, gx, c1⟩ := (show Rd w w.heap.size A n 1 (fun s => [.int .i64 s]) ls from hr).int (k := n - 1) (by omega)
    have e1 := Lib.hid (show lastI ls = x by unfold lastI; rw [hl.out, List.getD_eq_getElem?_getD, gx]; rfl)
    have h1 : 0 < n := by omega
    clear h0 gx
    go_enter Try.func48, Try.ntmps48
    go_wp2_with fail
    go_ret
    exact ⟨ret_int e1.out.symm, Below.refl _ _⟩
/-- a grammar in new memory -/
def RetG (w0 : World) (xs : List Fac) (e : Ending) (w' : World) : Prop :=
  ∃ A c, e = .returned (.agg #[.slice A xs.length c]) ∧ w'.ownsRow w0.heap.size 82 3 (.slice A xs.length c) xs.length (xs.flatMap Fac.cells) ∧ Below w0.heap.size w0 w'
end Go.Proofs.Ytgdbpkpaacbhhaa


/-
  A new slice of four numbers.
-/
namespace Go.Proofs.Ytgdbpkpaacbhhaa
open Go.RowKit

theorem info_i64 : (Try.prog.info? 2).map (fun i => (i.zero, i.size, i.bytes)) = some (some (.int .i64 0), 1, 8) := by kernel_rfl
theorem made4 : madeCells (Value.int .i64 0).cells (4 * 1) = #[.int .i64 0, .int .i64 0, .int .i64 0, .int .i64 0] := by
  apply Array.ext
  · simp [size_madeCells]
  · intro i h1 h2
    have h3 : i < 4 := h2
    match i, h3 with
    | 0, _ => simp [madeCells, Value.cells]
    | 1, _ => simp [madeCells, Value.cells]
    | 2, _ => simp [madeCells, Value.cells]
    | 3, _ => simp [madeCells, Value.cells]
theorem make4 (W : World) : (Instr.makeSlice 46 (.int .i64 4) (.int .i64 4)).run Try.prog W = .ok (.slice (some ⟨W.heap.size, 0, none⟩) 4 4) (W.alloc (.cells #[.int .i64 0, .int .i64 0, .int .i64 0, .int .i64 0] 2)) := by
  obtain ⟨i0, hi, hz0, hz1, hz2⟩ := info_parts info_i64
  have hmk := run_make_rowN (P := Try.prog) 46 2 i0 _ Try.underlying46 hi hz0 .i64 .i64 4 4 (Nat.le_refl _) (by rw [hz2]; omega) (by omega) W
  rw [hz1, made4] at hmk
  exact hmk
end Go.Proofs.Ytgdbpkpaacbhhaa


/-
  Rows of numbers that are filled one by one; the bytes of a plain word.
-/
namespace Go.Proofs.Ytgdbpkpaacbhhaa
open Go.RowKit

theorem okW_b {p : ByteArray} (h : okW p = true) : p.size ≤ 2000 ∧ ∀ i (hi : i < p.size), letB (p[i]'hi) = true := by
  simp only [okW, Bool.and_eq_true, decide_eq_true_eq, List.all_eq_true] at h
  refine ⟨h.1, fun i hi => h.2 _ ?_⟩
  exact List.mem_of_getElem? (at_byte p i hi)
theorem made_at {n j : Nat} (h : j < n) : (madeCells (Value.int .i64 0).cells (n * 1))[j]? = some (.int .i64 0) := by
  rw [Array.getElem?_eq_getElem (by rw [size_madeCells]; simpa [Value.cells] using h)]
  simp [madeCells, Value.cells, Nat.mod_one]
theorem fillc {f : Nat → Int} {cs : Array Value} {n k : Nat} (hs : cs.size = n) (hk : k < n) (hc : ∀ j, j < n → cs[j]? = some (.int .i64 (if j < k then f j else 0))) (v : Int) (hv : f k = v) :
    (cs.setIfInBounds k (.int .i64 v)).size = n ∧ ∀ j, j < n → (cs.setIfInBounds k (.int .i64 v))[j]? = some (.int .i64 (if j < k + 1 then f j else 0)) := by
  refine ⟨by simpa using hs, fun j hj => ?_⟩
  by_cases h : j = k
  · subst h
    rw [Array.getElem?_setIfInBounds_self_of_lt (by omega), if_pos (by omega), hv]
  · rw [Array.getElem?_setIfInBounds_ne (by omega), hc j hj]
    by_cases h2 : j < k
    · rw [if_pos h2, if_pos (by omega)]
    · rw [if_neg h2, if_neg (by omega)]
theorem keepc {f : Nat → Int} {cs : Array Value} {n k : Nat} (hk : k < n) (hc : ∀ j, j < n → cs[j]? = some (.int .i64 (if j < k then f j else 0))) (hv : f k = 0) :
    ∀ j, j < n → cs[j]? = some (.int .i64 (if j < k + 1 then f j else 0)) := by
  intro j hj
  rw [hc j hj]
  by_cases h : j = k
  · subst h
    rw [if_neg (by omega), if_pos (by omega), hv]
  · by_cases h2 : j < k
    · rw [if_pos h2, if_pos (by omega)]
    · rw [if_neg h2, if_neg (by omega)]
theorem Rd.n64 {w : World} {B n : Nat} {A : Option Addr} {xs : List Int} {k : Nat} (h : Rd w B A n 1 intE xs) (hk : k < n) :
    ∃ b o, A = some ⟨b, o, none⟩ ∧ b < B ∧ w.cell? ⟨b, o + k, none⟩ = some (.int .i64 (xs.getD k 0)) := by
  obtain ⟨b, o, hA, hb, x, hx, hc⟩ := h.at_ hk
  refine ⟨b, o, hA, hb, ?_⟩
  have := hc 0 _ rfl
  rw [List.getD_eq_getElem?_getD, hx]
  simpa using this
end Go.Proofs.Ytgdbpkpaacbhhaa


/-
  The marks that the laws lay into results, and whether they are still there.
-/
namespace Go.Proofs.Ytgdbpkpaacbhhaa
open Go.RowKit

def digB (k : Nat) : UInt8 := UInt8.ofNat (48 + k % 10)
/-- the digits of a number, ahead of a text -/
def mtGo (k : Nat) (out : ByteArray) : ByteArray :=
  if 0 < k then mtGo (k / 10) ((⟨#[digB k]⟩ : ByteArray) ++ out) else out
termination_by k
decreasing_by omega
def mt (k : Nat) : ByteArray := if k = 0 then ⟨#[109, 48]⟩ else (⟨#[109]⟩ : ByteArray) ++ mtGo k ⟨#[]⟩

theorem mtGo_pos {j : Nat} (h : 0 < j) (out : ByteArray) : mtGo j out = mtGo (j / 10) ((⟨#[digB j]⟩ : ByteArray) ++ out) := by
  conv => lhs; rw [mtGo]
  rw [if_pos h]
/-- one byte as a text -/
theorem conv_one (W : World) (j c : Nat) : (convert 22 9 (.slice (some ⟨W.heap.size, 0, none⟩) 1 c)).run Try.prog (W.alloc (.cells #[.int .u8 (48 + (j : Int) % 10)] 5)) =
    .ok (.string ⟨#[digB j]⟩) (W.alloc (.cells #[.int .u8 (48 + (j : Int) % 10)] 5)) := by
  have e : ((digB j).toNat : Int) = 48 + (j : Int) % 10 := by
    unfold digB; rw [UInt8.toNat_ofNat']; omega
  refine run_convert_bytes_back (P := Try.prog) _ _ _ 5 ⟨W.heap.size, 0, none⟩ c [digB j] Try.underlying22 Try.underlying5 Try.underlying9 fun i hi => ?_
  obtain rfl : i = 0 := by simpa using hi
  rw [List.getElem_cons_zero, e]
  exact (Blk.new W 5 #[.int .u8 (48 + (j : Int) % 10)]).cell 0

theorem mtGo_size : ∀ (k : Nat) (out : ByteArray), k ≤ 100000000 → (mtGo k out).size ≤ out.size + k := by
  intro k
  induction k using Nat.strongRecOn with
  | ind k ih =>
    intro out hk
    by_cases h : 0 < k
    · rw [mtGo_pos h]
      have := ih (k / 10) (by omega) ((⟨#[digB k]⟩ : ByteArray) ++ out) (by omega)
      rw [ByteArray.size_append] at this
      have e : (⟨#[digB k]⟩ : ByteArray).size = 1 := rfl
      omega
    · rw [mtGo, if_neg h]; omega
theorem mt_size (k : Nat) (h : k ≤ 100000000) : (mt k).size ≤ 200000000 := by
  unfold mt
  split
  · show 2 ≤ _; omega
  · rw [ByteArray.size_append]
    have := mtGo_size k ⟨#[]⟩ h
    have e : (⟨#[109]⟩ : ByteArray).size = 1 := rfl
    have e2 : (⟨#[]⟩ : ByteArray).size = 0 := rfl
    omega
def strEM (s : ByteArray) : List Value := [.string s]
/-- the marks from k on -/
def marks (k : Nat) : Nat → List ByteArray
  | 0 => []
  | n + 1 => mt k :: marks (k + 1) n
theorem marks_len : ∀ (n k : Nat), (marks k n).length = n
  | 0, _ => rfl
  | n + 1, k => by simp [marks, marks_len n]
theorem marks_at : ∀ (n k i : Nat), i < n → (marks k n)[i]? = some (mt (k + i))
  | 0, _, i, h => by omega
  | n + 1, k, 0, _ => by simp [marks]
  | n + 1, k, i + 1, h => by
    rw [marks, List.getElem?_cons_succ, marks_at n (k + 1) i (by omega)]
    congr 2; omega

/-- the cells of a slice of the call's own, marked -/
theorem own_set {w : World} {base : Nat} {e : TypeId} {sz n c g : Nat} {xs : List Value} (h : w.ownsRow base e sz (.slice (some ⟨g, 0, none⟩) n c) n xs) (i : Nat) (u : Value) :
    (w.setCell ⟨g, i, none⟩ u).ownsRow base e sz (.slice (some ⟨g, 0, none⟩) n c) n (xs.set i u) := by
  exact (h.stored i u).1
end Go.Proofs.Ytgdbpkpaacbhhaa


/-
  The marks that the laws lay into lists of numbers and of rules.
-/
namespace Go.Proofs.Ytgdbpkpaacbhhaa
open Go.RowKit

/-- two rows of different element types do not share a block -/
theorem own_ne {w : World} {b1 b2 e1 e2 s1 s2 n1 n2 : Nat} {v1 v2 : Value} {xs1 xs2 : List Value} (h1 : w.ownsRow b1 e1 s1 v1 n1 xs1) (h2 : w.ownsRow b2 e2 s2 v2 n2 xs2) (hne : e1 ≠ e2) : v1.ownBlock = none ∨ v1.ownBlock ≠ v2.ownBlock := by
  rcases h1.2 with ⟨rfl, _⟩ | ⟨g1, c1, u1, rfl, _, hh1, _⟩
  · left; rfl
  · right
    rcases h2.2 with ⟨rfl, _⟩ | ⟨g2, c2, u2, rfl, _, hh2, _⟩
    · simp [Value.ownBlock]
    · intro he
      have hg : g1 = g2 := by simpa [Value.ownBlock] using he
      subst hg
      rw [hh1] at hh2
      injection hh2 with hh2
      injection hh2 with _ ht
      exact hne ht
/-- the numbers from k on -/
def marksI (k : Nat) : Nat → List Int
  | 0 => []
  | n + 1 => (k : Int) :: marksI (k + 1) n
theorem marksI_len : ∀ (n k : Nat), (marksI k n).length = n
  | 0, _ => rfl
  | n + 1, k => by simp [marksI, marksI_len n]
theorem marksI_at : ∀ (n k i : Nat), i < n → (marksI k n)[i]? = some ((k + i : Nat) : Int)
  | 0, _, i, h => by omega
  | n + 1, k, 0, _ => by simp [marksI]
  | n + 1, k, i + 1, h => by
    rw [marksI, List.getElem?_cons_succ, marksI_at n (k + 1) i (by omega)]
    congr 2; omega
theorem own_setI {w : World} {base : Nat} {e : TypeId} {sz n c g : Nat} {xs : List Value} (h : w.ownsRow base e sz (.slice (some ⟨g, 0, none⟩) n c) n xs) (i : Nat) (u : Value) :
    (w.setCell ⟨g, i, none⟩ u).ownsRow base e sz (.slice (some ⟨g, 0, none⟩) n c) n (xs.set i u) := (h.stored i u).1
end Go.Proofs.Ytgdbpkpaacbhhaa


/-
  Lists of numbers copied and compared.
-/
namespace Go.Proofs.Ytgdbpkpaacbhhaa
open Go.RowKit

theorem fill1 {α : Type} {enc : α → List Value} {cs : Array Value} {n k : Nat} {xs : List α} {x : α} {v : Value} (hs : cs.size = n * 1) (hk : k < n) (hx : xs[k]? = some x) (he : enc x = [v])
    (hc : ∀ i y, i < k → xs[i]? = some y → ∀ j, j < 1 → cs[i * 1 + j]? = (enc y)[j]?) :
    (cs.setIfInBounds k v).size = n * 1 ∧ ∀ i y, i < k + 1 → xs[i]? = some y → ∀ j, j < 1 → (cs.setIfInBounds k v)[i * 1 + j]? = (enc y)[j]? := by
  refine ⟨by simpa using hs, fun i y hi hy j hj => ?_⟩
  obtain rfl : j = 0 := by omega
  by_cases h : i = k
  · subst h
    obtain rfl : x = y := by rw [hx] at hy; exact Option.some.inj hy
    rw [he]
    have : i < cs.size := by omega
    simp [this]
  · rw [← hc i y (by omega) hy 0 hj]
    rw [Array.getElem?_setIfInBounds_ne (by omega)]

def eqInts : List Int → List Int → Bool
  | x :: r, y :: s => decide (x = y) && eqInts r s
  | _, _ => true
theorem eqInts_eq : ∀ (a b : List Int), a.length = b.length → eqInts a b = decide (a = b)
  | [], [], _ => rfl
  | x :: r, y :: s, h => by
    rw [eqInts, eqInts_eq r s (by simpa using h)]
    by_cases h1 : x = y <;> by_cases h2 : r = s <;> simp [h1, h2]
end Go.Proofs.Ytgdbpkpaacbhhaa


/-
  Tables of numbers that a call has made: compared, marked, held.
-/
namespace Go.Proofs.Ytgdbpkpaacbhhaa
open Go.RowKit

def encH (m g : Nat) : List Value := [.slice (some ⟨g, 0, none⟩) m m]
/-- a table: its head is a row of the call's own, its rows lie apart -/
structure TabJ (w : World) (base : Nat) (A : Option Addr) (n c m : Nat) (gs : List Nat) (xss : List (List Int)) : Prop where
  o : w.ownsRow base 46 1 (.slice A n c) n (gs.flatMap (encH m))
  lg : gs.length = n
  r : ∀ i g, gs[i]? = some g → w.ownsRow base 2 1 (.slice (some ⟨g, 0, none⟩) m m) m ((xss.getD i []).flatMap intE)
  m : ∀ i, i < n → (xss.getD i []).length = m
  d : ∀ (i j g : Nat), gs[i]? = some g → gs[j]? = some g → i = j
theorem TabJ.next {w w' : World} {base n c m : Nat} {A : Option Addr} {gs : List Nat} {xss : List (List Int)} (h : TabJ w base A n c m gs xss) (hb : Below w.heap.size w w') : TabJ w' base A n c m gs xss :=
  ⟨own_next h.o hb, h.lg, fun i g hg => own_next (h.r i g hg) hb, h.m, h.d⟩
theorem own_low {w1 w w' : World} {b e sz n : Nat} {v : Value} {xs : List Value} {b' : Nat} (h1 : w1.ownsRow b e sz v n xs) (h : w.ownsRow b' e sz v n xs) (hb : Below w1.heap.size w w') : w'.ownsRow b' e sz v n xs := by
  refine ⟨h.1, ?_⟩
  rcases h.2 with hn | ⟨g, cap, cur, rfl, hg, hh, r⟩
  · exact .inl hn
  · exact .inr ⟨g, cap, cur, rfl, hg, (hb.block g (h1.lt g rfl).2).trans hh, r⟩
theorem TabJ.low {w1 w w' : World} {base n c m : Nat} {A : Option Addr} {gs : List Nat} {xss : List (List Int)} (h1 : TabJ w1 base A n c m gs xss) (h : TabJ w base A n c m gs xss) (hb : Below w1.heap.size w w') : TabJ w' base A n c m gs xss :=
  ⟨own_low h1.o h.o hb, h.lg, fun i g hg => own_low (h1.r i g hg) (h.r i g hg) hb, h.m, h.d⟩
/-- what writes a row of another type leaves the table as it is -/
theorem TabJ.kept {w w' : World} {base n c m b2 e2 s2 n2 : Nat} {A : Option Addr} {gs : List Nat} {xss : List (List Int)} {v2 : Value} {xs2 : List Value} (h : TabJ w base A n c m gs xss) (h2 : w.ownsRow b2 e2 s2 v2 n2 xs2) (hg : w.grownBy w' v2.ownBlock) (ht : 46 ≠ e2) (ht2 : 2 ≠ e2) : TabJ w' base A n c m gs xss :=
  ⟨h.o.kept hg (own_ne h.o h2 ht), h.lg, fun i g hg' => (h.r i g hg').kept hg (own_ne (h.r i g hg') h2 ht2), h.m, h.d⟩
theorem TabJ.at_ {w : World} {base n c m : Nat} {A : Option Addr} {gs : List Nat} {xss : List (List Int)} (h : TabJ w base A n c m gs xss) {i : Nat} (hi : i < n) :
    ∃ p g, A = some ⟨p, 0, none⟩ ∧ p < w.heap.size ∧ gs[i]? = some g ∧ w.cell? ⟨p, i, none⟩ = some (.slice (some ⟨g, 0, none⟩) m m) ∧ w.ownsRow base 2 1 (.slice (some ⟨g, 0, none⟩) m m) m ((xss.getD i []).flatMap intE) := by
  obtain ⟨p, cap, hv, hg, hs⟩ := h.o.form (by omega)
  injection hv with hA _ _
  subst hA
  have hlg := h.lg
  have hx : gs[i]? = some (gs[i]'(by omega)) := List.getElem?_eq_getElem _
  refine ⟨p, _, rfl, hs, hx, ?_, h.r i _ hx⟩
  rw [h.o.cellAt i (by omega)]
  have := flat_at (enc := encH m) (sz := 1) gs (fun _ _ => rfl) i _ hx 0 (by omega)
  rw [Nat.mul_one, Nat.add_zero] at this
  rw [this]; rfl
/-- a table with a code -/
def RetTabC (w0 : World) (n m : Nat) (xss : List (List Int)) (code : Int) (e : Ending) (w' : World) : Prop :=
  ∃ A c gs, e = .returned (.tuple #[.slice A n c, .int .i64 code]) ∧ TabJ w' w0.heap.size A n c m gs xss ∧ Below w0.heap.size w0 w'
/-- the marks of a table -/
def marksJ (k m : Nat) (n : Nat) : List (List Int) := (List.range n).map fun j => marksI (k + j * m) m
def marksP (k m n i : Nat) (xss : List (List Int)) : List (List Int) := (List.range n).map fun j => if j < i then marksI (k + j * m) m else xss.getD j []
theorem marksJ_at {k m n i : Nat} (h : i < n) : (marksJ k m n).getD i [] = marksI (k + i * m) m := by
  unfold marksJ; rw [List.getD_eq_getElem?_getD, List.getElem?_map, List.getElem?_range h]; rfl
theorem marksP_at {k m n i j : Nat} {xss : List (List Int)} (h : j < n) : (marksP k m n i xss).getD j [] = if j < i then marksI (k + j * m) m else xss.getD j [] := by
  unfold marksP; rw [List.getD_eq_getElem?_getD, List.getElem?_map, List.getElem?_range h]; rfl
end Go.Proofs.Ytgdbpkpaacbhhaa


/-
  Scattered words, counted: tables of numbers as values; the plain part.
-/
namespace Go.Proofs.Ytgdbpkpaacbhhaa
open Go.RowKit

abbrev Tb := Nat → Nat → Int
def rowL (N : Nat) (f : Nat → Int) : List Int := (List.range N).map f
def tabL (N : Nat) (Y : Tb) : List (List Int) := (List.range N).map fun a => rowL N (Y a)
theorem rowL_len (N : Nat) (f : Nat → Int) : (rowL N f).length = N := by simp [rowL]
theorem rowL_at {N : Nat} (f : Nat → Int) {i : Nat} (h : i < N) : (rowL N f).getD i 0 = f i := by
  unfold rowL; rw [List.getD_eq_getElem?_getD, List.getElem?_map, List.getElem?_range h]; rfl
theorem tabL_at {N : Nat} (Y : Tb) {i : Nat} (h : i < N) : (tabL N Y).getD i [] = rowL N (Y i) := by
  unfold tabL; rw [List.getD_eq_getElem?_getD, List.getElem?_map, List.getElem?_range h]; rfl
theorem rowL_ext {N : Nat} {f g : Nat → Int} (h : ∀ b, b < N → f b = g b) : rowL N f = rowL N g := List.map_congr_left fun b hb => h b (List.mem_range.1 hb)
theorem tabL_ext {N : Nat} {X Y : Tb} (h : ∀ a b, a < N → b < N → X a b = Y a b) : tabL N X = tabL N Y :=
  List.map_congr_left fun a ha => rowL_ext fun b hb => h a b (List.mem_range.1 ha) hb
/-- a block whose numbers are known is a row of the call's own -/
theorem own_of_row {w : World} {base g N : Nat} {cs : Array Value} {f : Nat → Int} (hB : Blk w g 2 cs) (hs : cs.size = N) (hc : ∀ j, j < N → cs[j]? = some (.int .i64 (f j))) (hb : base ≤ g) (hN : N ≤ maxLen) :
    w.ownsRow base 2 1 (.slice (some ⟨g, 0, none⟩) N N) N ((rowL N f).flatMap intE) := by
  have he : (rowL N f).flatMap intE = cs.toList := by
    refine List.ext_getElem? fun i => ?_
    by_cases hi : i < N
    · have h1 : (rowL N f)[i]? = some (f i) := by unfold rowL; rw [List.getElem?_map, List.getElem?_range hi]; rfl
      have h2 := flat_at (enc := intE) (sz := 1) (rowL N f) (fun _ _ => rfl) i _ h1 0 (by omega)
      rw [Nat.mul_one, Nat.add_zero] at h2
      have h3 : cs.toList[i]? = some (.int .i64 (f i)) := by simpa using hc i hi
      rw [h2, h3]; rfl
    · have l1 : ((rowL N f).flatMap intE).length = N := by
        have : ∀ (l : List Int), (l.flatMap intE).length = l.length := fun l => by
          induction l with
          | nil => rfl
          | cons x r ih => simp [intE, ih]
        rw [this, rowL_len]
      rw [List.getElem?_eq_none (by omega), List.getElem?_eq_none (by simp [hs]; omega)]
  refine ⟨by rw [he]; simp [hs], .inr ⟨g, N, cs, rfl, hb, hB, Nat.le_refl _, hN, by omega, ?_⟩⟩
  rw [he, List.take_of_length_le (by simp [hs])]
theorem TabJ.lt {w : World} {base n c m : Nat} {A : Option Addr} {gs : List Nat} {xss : List (List Int)} (h : TabJ w base A n c m gs xss) {i g : Nat} (hg : gs[i]? = some g) : base ≤ g ∧ g < w.heap.size := (h.r i g hg).lt g rfl
/-- one more row -/
theorem TabJ.push {w0 w w' : World} {base n c c' m : Nat} {A A' : Option Addr} {gs : List Nat} {xss : List (List Int)} {g : Nat} (h0 : TabJ w0 base A n c m gs xss) (h : TabJ w base A n c m gs xss) (hg0 : w0.heap.size ≤ g)
    (hr : w.ownsRow base 2 1 (.slice (some ⟨g, 0, none⟩) m m) m ((xss.getD n []).flatMap intE)) (hm : (xss.getD n []).length = m) (o : Obj)
    (own : w'.ownsRow base 46 1 (.slice A' (n + 1) c') (n + 1) ((gs ++ [g]).flatMap (encH m))) (hg : (w.alloc o).grownBy w' (Value.slice A n c).ownBlock) : TabJ w' base A' (n + 1) c' m (gs ++ [g]) xss := by
  have hlg := h.lg
  have cases : ∀ i p, (gs ++ [g])[i]? = some p → (i < n ∧ gs[i]? = some p) ∨ (i = n ∧ p = g) := fun i p hp => by
    by_cases hi : i < n
    · rw [List.getElem?_append_left (by omega)] at hp; exact .inl ⟨hi, hp⟩
    · have hi2 : i = n := by
        have := (List.getElem?_eq_some_iff.1 hp).1
        simp at this; omega
      subst hi2
      rw [List.getElem?_append_right (by omega)] at hp
      exact .inr ⟨rfl, by simpa [hlg] using hp.symm⟩
  refine ⟨own, by simp [hlg], fun i p hp => ?_, fun i hi => ?_, fun i j p hi hj => ?_⟩
  · rcases cases i p hp with ⟨_, h1⟩ | ⟨rfl, rfl⟩
    · exact ((h.r i p h1).alloc o).kept hg (own_ne ((h.r i p h1).alloc o) (h.o.alloc o) (by decide))
    · exact (hr.alloc o).kept hg (own_ne (hr.alloc o) (h.o.alloc o) (by decide))
  · by_cases hi2 : i < n
    · exact h.m i hi2
    · obtain rfl : i = n := by omega
      exact hm
  · rcases cases i p hi with ⟨a1, h1⟩ | ⟨a1, h1⟩
    · rcases cases j p hj with ⟨_, h2⟩ | ⟨_, h2⟩
      · exact h.d i j p h1 h2
      · have := (h0.lt h1).2; omega
    · rcases cases j p hj with ⟨_, h2⟩ | ⟨a2, _⟩
      · have := (h0.lt h2).2; omega
      · omega
/-- one number turned -/
theorem TabJ.set {w : World} {base n c m : Nat} {A : Option Addr} {gs : List Nat} {Y : Tb} (h : TabJ w base A n c m gs (tabL m Y)) {i j g : Nat} (hn : n ≤ m) (hi : i < n) (_hj : j < m) (hg : gs[i]? = some g) (v : Int) {Y' : Tb} (hv : Y' i j = v) (hY : ∀ a b, ¬ (a = i ∧ b = j) → Y' a b = Y a b) :
    TabJ (w.setCell ⟨g, j, none⟩ (.int .i64 v)) base A n c m gs (tabL m Y') := by
  have hr := h.r i g hg
  have ht := own_setI hr j (.int .i64 v)
  have hgb : w.grownBy (w.setCell ⟨g, j, none⟩ (.int .i64 v)) (some g) := gb_set w g j _
  have hlg := h.lg
  refine ⟨h.o.kept (row := some g) hgb (own_ne h.o hr (by decide)), h.lg, fun a p hp => ?_, fun a ha => by rw [tabL_at _ (by omega), rowL_len], h.d⟩
  have han : a < n := by rw [← hlg]; exact (List.getElem?_eq_some_iff.1 hp).1
  rw [tabL_at _ (by omega)]
  by_cases ha : a = i
  · subst ha
    obtain rfl : p = g := by rw [hg] at hp; injection hp with hp; exact hp.symm
    rw [tabL_at _ (by omega)] at ht
    rw [show (rowL m (Y' a)).flatMap intE = ((rowL m (Y a)).flatMap intE).set j (.int .i64 v) from ?_]
    · exact ht
    refine List.ext_getElem? fun b => ?_
    have fl : ∀ (f : Nat → Int) (b : Nat), ((rowL m f).flatMap intE)[b]? = if b < m then some (.int .i64 (f b)) else none := fun f b => by
      by_cases hb : b < m
      · have h1 : (rowL m f)[b]? = some (f b) := by unfold rowL; rw [List.getElem?_map, List.getElem?_range hb]; rfl
        have h2 := flat_at (enc := intE) (sz := 1) (rowL m f) (fun _ _ => rfl) b _ h1 0 (by omega)
        rw [Nat.mul_one, Nat.add_zero] at h2
        rw [h2, if_pos hb]; rfl
      · have l1 : ((rowL m f).flatMap intE).length = m := by
          have : ∀ (l : List Int), (l.flatMap intE).length = l.length := fun l => by
            induction l with
            | nil => rfl
            | cons x r ih => simp [intE, ih]
          rw [this, rowL_len]
        rw [if_neg hb, List.getElem?_eq_none (by omega)]
    rw [List.getElem?_set, fl, fl]
    by_cases hb : j = b
    · subst hb
      rw [if_pos _hj, if_pos rfl, if_pos ?_, hv]
      have := fl (Y a) j
      rw [if_pos _hj] at this
      exact (List.getElem?_eq_some_iff.1 this).1
    · rw [if_neg hb]
      by_cases hbm : b < m
      · rw [if_pos hbm, if_pos hbm, hY a b (by omega)]
      · rw [if_neg hbm, if_neg hbm]
  · have hr2 := h.r a p hp
    have hpg : p ≠ g := fun e => ha (h.d a i p hp (by rw [e]; exact hg))
    rw [tabL_at _ (by omega)] at hr2
    rw [rowL_ext (f := Y' a) (g := Y a) (fun b _ => hY a b (by omega))]
    exact hr2.kept (row := some g) hgb (.inr (by simp [Value.ownBlock, hpg]))
/-- the value v holds the table Y of N rows of N numbers; all of it is made -/
def TabN (N base : Nat) (w : World) (v : Value) (Y : Tb) : Prop := ∃ A c gs, v = .slice A N c ∧ TabJ w base A N c N gs (tabL N Y)
theorem tabN_ok (N base : Nat) {E : TypeId} (h1 : E ≠ 2) (h2 : E ≠ 46) : RepOk E (TabN N base) := by
  refine ⟨fun {w w' v y} h hb => ?_, fun {w w' v y g cs} h hB hg => ?_, fun {w v y} h => ?_⟩
  · obtain ⟨A, c, gs, e, hT⟩ := h
    exact ⟨A, c, gs, e, hT.next hb⟩
  · obtain ⟨A, c, gs, e, hT⟩ := h
    refine ⟨A, c, gs, e, ⟨?_, hT.lg, fun i p hp => ?_, hT.m, hT.d⟩⟩
    · rcases hT.o.2 with ⟨hn, h0⟩ | ⟨p, cap, cur, hv, hb, hh, r⟩
      · exact ⟨hT.o.1, .inl ⟨hn, h0⟩⟩
      · refine ⟨hT.o.1, .inr ⟨p, cap, cur, hv, hb, ?_, r⟩⟩
        have hp : p ≠ g := fun e => by
          subst e
          unfold Blk at hB
          rw [hB] at hh; injection hh with q; injection q with _ q
          exact h2 q
        exact (hg.block p (Array.getElem?_eq_some_iff.1 hh).1 (fun e => hp (by injection e))).trans hh
    · have hr := hT.r i p hp
      rcases hr.2 with ⟨hn, h0⟩ | ⟨p', cap, cur, hv, hb, hh, r⟩
      · exact ⟨hr.1, .inl ⟨hn, h0⟩⟩
      · refine ⟨hr.1, .inr ⟨p', cap, cur, hv, hb, ?_, r⟩⟩
        have hp : p' ≠ g := fun e => by
          subst e
          unfold Blk at hB
          rw [hB] at hh; injection hh with q; injection q with _ q
          exact h1 q
        exact (hg.block p' (Array.getElem?_eq_some_iff.1 hh).1 (fun e => hp (by injection e))).trans hh
  · obtain ⟨A, c, gs, e, _⟩ := h
    exact ⟨_, _, _, e⟩
/-- where a number of a table lies -/
theorem TabJ.num {w : World} {base n c m : Nat} {A : Option Addr} {gs : List Nat} {Y : Tb} (h : TabJ w base A n c m gs (tabL m Y)) (hn : n ≤ m) {i j : Nat} (hi : i < n) (hj : j < m) :
    ∃ p g, A = some ⟨p, 0, none⟩ ∧ p < w.heap.size ∧ gs[i]? = some g ∧ g < w.heap.size ∧ w.cell? ⟨p, i, none⟩ = some (.slice (some ⟨g, 0, none⟩) m m) ∧ w.cell? ⟨g, j, none⟩ = some (.int .i64 (Y i j)) := by
  obtain ⟨p, g, hA, hp, hg, hc, hr⟩ := h.at_ hi
  refine ⟨p, g, hA, hp, hg, (h.lt hg).2, hc, ?_⟩
  rw [tabL_at _ (by omega)] at hr
  have := own_at (sz := 1) (enc := intE) (fun _ _ => rfl) hr (rowL_len _ _) 0 j hj 0 (by omega)
  rw [Nat.mul_one, Nat.add_zero, rowL_at _ hj] at this
  exact this
-- what is counted
def scU (p : ByteArray) (m : Int) (l : Int) : Tb := fun a b => if b = a then 1 % m else if b = a + 1 ∧ a < p.size ∧ 0 ≤ l ∧ ((p.data.toList.getD a 0).toNat : Int) - 97 = l then 1 % m else 0
def scDot (m : Int) (X Y : Tb) (a b : Nat) : Nat → Int
  | 0 => 0
  | c + 1 => (scDot m X Y a b c + X a (a + c) * Y (a + c) b) % m
def scG (m : Int) (X Y : Tb) (_ : Fac) : Tb := fun a b => if b < a then 0 else scDot m X Y a b (b - a + 1)
abbrev scNil : Tb := fun _ _ => 0
abbrev scAll (p : ByteArray) (m : Int) (rs : List Fac) : List Tb := full scNil (fun l => scU p m (l : Int)) (scG m) rs
def InT (N : Nat) (m : Int) (X : Tb) : Prop := ∀ a b, a < N → b < N → 0 ≤ X a b ∧ X a b < m
theorem emod_inT {a m : Int} (h : 1 ≤ m) : 0 ≤ a % m ∧ a % m < m := ⟨Int.emod_nonneg _ (by omega), Int.emod_lt_of_pos _ (by omega)⟩
theorem scDot_in {m : Int} (h : 1 ≤ m) (X Y : Tb) (a b : Nat) : ∀ c, 0 ≤ scDot m X Y a b c ∧ scDot m X Y a b c < m
  | 0 => by unfold scDot; omega
  | c + 1 => emod_inT h
theorem scU_in {m : Int} (h : 1 ≤ m) (p : ByteArray) (l : Int) (N : Nat) : InT N m (scU p m l) := fun a b _ _ => by
  unfold scU
  split
  · exact emod_inT h
  split
  · exact emod_inT h
  · omega
theorem scG_in {m : Int} (h : 1 ≤ m) (X Y : Tb) (r : Fac) (N : Nat) : InT N m (scG m X Y r) := fun a b _ _ => by
  unfold scG
  split
  · omega
  · exact scDot_in h _ _ _ _ _
theorem sc_in {rs : List Fac} {ls : List Int} (hls : gLens rs [] = some ls) {m : Int} (hm : 1 ≤ m) (p : ByteArray) (N : Nat) {k : Nat} (hk : k < rs.length) : InT N m ((scAll p m rs).getD k scNil) :=
  full_ind scNil (fun l => scU p m (l : Int)) (scG m) (wf_of hls) (fun _ x => InT N m x) (fun _ _ _ _ => scU_in hm p _ N) (fun _ _ _ _ _ _ _ _ _ _ _ _ => scG_in hm _ _ _ N) k hk
/-- the table of the word -/
def scTop (rs : List Fac) (p : ByteArray) (m : Int) : Tb := if rs.length = 0 then scU p m (-1) else (scAll p m rs).getD (rs.length - 1) scNil
theorem scTop_eq (rs : List Fac) (p : ByteArray) (m : Int) : (foldAll scNil (fun l => scU p m (l : Int)) (scG m) (scU p m (-1)) rs).getD ((foldAll scNil (fun l => scU p m (l : Int)) (scG m) (scU p m (-1)) rs).length - 1) scNil = scTop rs p m := by
  rw [foldAll_top]; rfl
theorem scTop_in {rs : List Fac} {ls : List Int} (hls : gLens rs [] = some ls) {m : Int} (hm : 1 ≤ m) (p : ByteArray) (N : Nat) : InT N m (scTop rs p m) := by
  unfold scTop
  split
  · exact scU_in hm p _ N
  · exact sc_in hls hm p N (by omega)
end Go.Proofs.Ytgdbpkpaacbhhaa


/-
  impl.folded at [4]int64: what it makes of a grammar, by the contracts of the two functions that it is handed.
-/
namespace Go.Proofs.Ytgdbpkpaacbhhaa
open Go.RowKit

structure Q4 where
  a : Int
  b : Int
  c : Int
  d : Int
  deriving Inhabited, DecidableEq
def Q4.nil : Q4 := ⟨0, 0, 0, 0⟩
def encQ4 (y : Q4) : List Value := [.int .i64 y.a, .int .i64 y.b, .int .i64 y.c, .int .i64 y.d]
theorem lenQ4 (y : Q4) : (encQ4 y).length = 4 := rfl

end Go.Proofs.Ytgdbpkpaacbhhaa


/-
  How often letters occur in the words of all rules: the model, and the program's census.
-/
namespace Go.Proofs.Ytgdbpkpaacbhhaa
open Go.RowKit

/-- the number of a letter in four numbers -/
def Q4.at_ (q : Q4) : Nat → Int
  | 0 => q.a
  | 1 => q.b
  | 2 => q.c
  | _ => q.d
theorem encQ4_at (q : Q4) {l : Nat} (h : l < 4) : (encQ4 q)[l]? = some (.int .i64 (q.at_ l)) := by
  match l, h with
  | 0, _ => rfl
  | 1, _ => rfl
  | 2, _ => rfl
  | 3, _ => rfl
def cntF (l : Nat) : Q4 := ⟨if l = 0 then 1 else 0, if l = 1 then 1 else 0, if l = 2 then 1 else 0, if l = 3 then 1 else 0⟩
def cntG (x y : Q4) (_ : Fac) : Q4 := ⟨x.a + y.a, x.b + y.b, x.c + y.c, x.d + y.d⟩
theorem cntF_at (l : Nat) {j : Nat} (h : j < 4) : (cntF l).at_ j = if l = j then 1 else 0 := by
  match j, h with
  | 0, _ => rfl
  | 1, _ => rfl
  | 2, _ => rfl
  | 3, _ => rfl
theorem cntG_at (x y : Q4) (r : Fac) (j : Nat) : (cntG x y r).at_ j = x.at_ j + y.at_ j := by
  match j with
  | 0 => rfl
  | 1 => rfl
  | 2 => rfl
  | _ + 3 => rfl
/-- how often letters occur, for each rule -/
abbrev cnts (rs : List Fac) : List Q4 := full Q4.nil cntF cntG rs
def QB (m : Int) (q : Q4) : Prop := 0 ≤ q.a ∧ 0 ≤ q.b ∧ 0 ≤ q.c ∧ 0 ≤ q.d ∧ q.a + q.b + q.c + q.d = m
theorem QB.at_ {m : Int} {q : Q4} (h : QB m q) (j : Nat) : 0 ≤ q.at_ j ∧ q.at_ j ≤ m := by
  obtain ⟨h0, h1, h2, h3, h4⟩ := h
  match j with
  | 0 => exact ⟨h0, show q.a ≤ m by omega⟩
  | 1 => exact ⟨h1, show q.b ≤ m by omega⟩
  | 2 => exact ⟨h2, show q.c ≤ m by omega⟩
  | _ + 3 => exact ⟨h3, show q.d ≤ m by omega⟩
theorem cnt_bound {rs : List Fac} {ls : List Int} (hls : gLens rs [] = some ls) {k : Nat} (hk : k < rs.length) : QB (ls.getD k 0) ((cnts rs).getD k Q4.nil) := by
  have hwf := wf_of hls
  refine full_ind Q4.nil cntF cntG hwf (fun k x => QB (ls.getD k 0) x) (fun k r hr h => ?_) (fun k r a b hr h0 h1 h2 h3 h4 ha hb => ?_) k hk
  · have h0 : r.l.size ≠ 0 := by
      obtain ⟨c, _, e⟩ := letT_one h
      rw [e]; show (1 : Nat) ≠ 0; omega
    show QB (ls.getD k 0) _
    rw [lens_let hls hr h0]
    have := letN_lt h
    generalize letN r.l = l at *
    match l, this with
    | 0, _ => simp [QB, cntF]
    | 1, _ => simp [QB, cntF]
    | 2, _ => simp [QB, cntF]
    | 3, _ => simp [QB, cntF]
  · show QB (ls.getD k 0) _
    rw [lens_pair hls hr h0]
    obtain ⟨a0, a1, a2, a3, a4⟩ := ha
    obtain ⟨b0, b1, b2, b3, b4⟩ := hb
    simp only [QB, cntG]
    omega
theorem cnt_at {rs : List Fac} {ls : List Int} (hls : gLens rs [] = some ls) {k : Nat} (hk : k < rs.length) (j : Nat) : 0 ≤ ((cnts rs).getD k Q4.nil).at_ j ∧ ((cnts rs).getD k Q4.nil).at_ j ≤ 1000000000000000 := by
  have h1 := (cnt_bound hls hk).at_ j
  have h2 := lens_bound hls hk
  omega
abbrev Q4.v (x : Q4) : Value := .agg #[.int .i64 x.a, .int .i64 x.b, .int .i64 x.c, .int .i64 x.d]
theorem Blk.four {w : World} {g : Nat} {t : TypeId} {x y z u : Value} (h : Blk w g t #[x, y, z, u]) : w.cell? ⟨g, 0, none⟩ = some x ∧ w.cell? ⟨g, 1, none⟩ = some y ∧ w.cell? ⟨g, 2, none⟩ = some z ∧ w.cell? ⟨g, 3, none⟩ = some u := ⟨h.cell 0, h.cell 1, h.cell 2, h.cell 3⟩

end Go.Proofs.Ytgdbpkpaacbhhaa


/-
  The reference's small functions on letters and numbers.
-/
namespace Go.Proofs.Ytgdbpkpaacbhhaa
open Go.RowKit

theorem l00Min_any (a b : Int) (w : World) : Calls Try.prog 55 #[.int .i64 a, .int .i64 b] w (Ret (.int .i64 (min a b)) w) := by
  go_enter Try.func55, Try.ntmps55
  go_wp2
  all_goals
    go_ret
    exact ⟨ret_int (by omega), by (repeat first | exact Below.refl _ _ | assumption | refine Below.drew ?_ | refine Below.alloc ?_ (by first | exact Nat.le_refl _ | (simp; done) | omega | (simp; omega)) _ | refine Below.setCell ?_ (by first | exact Nat.le_refl _ | (simp; done) | omega | (simp; omega)) _)⟩
theorem l00Max_any (a b : Int) (w : World) : Calls Try.prog 99 #[.int .i64 a, .int .i64 b] w (Ret (.int .i64 (max a b)) w) := by
  go_enter Try.func99, Try.ntmps99
  go_wp2
  all_goals
    go_ret
    exact ⟨ret_int (by omega), by (repeat first | exact Below.refl _ _ | assumption | refine Below.drew ?_ | refine Below.alloc ?_ (by first | exact Nat.le_refl _ | (simp; done) | omega | (simp; omega)) _ | refine Below.setCell ?_ (by first | exact Nat.le_refl _ | (simp; done) | omega | (simp; omega)) _)⟩
theorem l04Letter_any (c : UInt8) (hc : letB c = true) (w : World) : Calls Try.prog 97 #[.int .u8 (c.toNat : Int)] w (Ret (.int .i64 ((c.toNat : Int) - 97)) w) := by
  obtain ⟨h0, h1⟩ := letB_num hc
  clear hc
  go_enter Try.func97, Try.ntmps97
  go_wp2
  go_ret
  exact ⟨ret_int (by omega), by (repeat first | exact Below.refl _ _ | assumption | refine Below.drew ?_ | refine Below.alloc ?_ (by first | exact Nat.le_refl _ | (simp; done) | omega | (simp; omega)) _ | refine Below.setCell ?_ (by first | exact Nat.le_refl _ | (simp; done) | omega | (simp; omega)) _)⟩
end Go.Proofs.Ytgdbpkpaacbhhaa


/-
  The program's census, and the reference's table of counts.
-/
namespace Go.Proofs.Ytgdbpkpaacbhhaa
open Go.RowKit

def encG (g : Nat) : List Value := [.slice (some ⟨g, 0, none⟩) 4 4]
theorem one_encG (g : Nat) : ∀ u ∈ encG g, u.oneCell' = true := by
  intro u hu
  obtain rfl : u = .slice (some ⟨g, 0, none⟩) 4 4 := by simpa [encG] using hu
  rfl
theorem elemG : Elem Try.prog 41 46 1 24 := Elem.mk' (z := .slice none 0 0) Try.underlying41 (by kernel_rfl) rfl
def RowsOk (w : World) (base : Nat) (gs : List Nat) (qs : List Q4) : Prop := gs.length = qs.length ∧ ∀ i g, gs[i]? = some g → base ≤ g ∧ Blk w g 2 (encQ4 (qs.getD i Q4.nil)).toArray
def RetRows (w0 : World) (qs : List Q4) (e : Ending) (w' : World) : Prop :=
  ∃ A c gs, e = .returned (.slice A qs.length c) ∧ w'.ownsRow w0.heap.size 46 1 (.slice A qs.length c) qs.length (gs.flatMap encG) ∧ RowsOk w' w0.heap.size gs qs ∧ Below w0.heap.size w0 w'
/-- a table of numbers in memory -/
def Tab (w : World) (B : Nat) (A : Option Addr) (n : Nat) (qs : List Q4) : Prop :=
  qs.length = n ∧ ∀ k, k < n → ∃ b o g, A = some ⟨b, o, none⟩ ∧ b < B ∧ g < B ∧ w.cell? ⟨b, o + k, none⟩ = some (.slice (some ⟨g, 0, none⟩) 4 4) ∧ ∀ j, j < 4 → w.cell? ⟨g, j, none⟩ = some (.int .i64 ((qs.getD k Q4.nil).at_ j))
theorem Tab.next {w w' : World} {A : Option Addr} {n : Nat} {qs : List Q4} (h : Tab w w.heap.size A n qs) (hb : Below w.heap.size w w') : Tab w' w'.heap.size A n qs := by
  refine ⟨h.1, fun k hk => ?_⟩
  obtain ⟨b, o, g, hA, hB, hg, hc, hj⟩ := h.2 k hk
  have := hb.size
  exact ⟨b, o, g, hA, by omega, by omega, (hb.cell (p := ⟨b, o + k, none⟩) hB).trans hc, fun j hj' => (hb.cell (p := ⟨g, j, none⟩) hg).trans (hj j hj')⟩
theorem encG_at {w : World} {base c k : Nat} {A : Option Addr} {gs : List Nat} (h : w.ownsRow base 46 1 (.slice A k c) k (gs.flatMap encG)) (hl : gs.length = k) {i : Nat} (hi : i < k) :
    ∃ p g, A = some ⟨p, 0, none⟩ ∧ base ≤ p ∧ p < w.heap.size ∧ gs[i]? = some g ∧ w.cell? ⟨p, i, none⟩ = some (.slice (some ⟨g, 0, none⟩) 4 4) := by
  obtain ⟨p, cap, hv, hg, hs⟩ := h.form (by omega)
  injection hv with hA _ _
  subst hA
  have hx : gs[i]? = some (gs[i]'(by omega)) := List.getElem?_eq_getElem _
  refine ⟨p, _, rfl, hg, hs, hx, ?_⟩
  rw [h.cellAt i (by omega)]
  have := flat_at (enc := encG) (sz := 1) gs (fun _ _ => rfl) i _ hx 0 (by omega)
  rw [Nat.mul_one, Nat.add_zero] at this
  rw [this]; rfl
theorem Tab.of {w : World} {base c n : Nat} {A : Option Addr} {gs : List Nat} {qs : List Q4} (hn : qs.length = n) (h : w.ownsRow base 46 1 (.slice A n c) n (gs.flatMap encG)) (hr : RowsOk w base gs qs) : Tab w w.heap.size A n qs := by
  refine ⟨hn, fun k hk => ?_⟩
  obtain ⟨p, g, hA, hp, hs, hx, hc⟩ := encG_at h (hr.1.trans hn) hk
  obtain ⟨hg, hB⟩ := hr.2 k g hx
  refine ⟨p, 0, g, hA, hs, hB.lt, by simpa using hc, fun j hj => ?_⟩
  rw [hB.cell]
  simpa using encQ4_at (qs.getD k Q4.nil) hj
def part (q : Q4) (l : Nat) : Array Value := #[.int .i64 (if 0 < l then q.a else 0), .int .i64 (if 1 < l then q.b else 0), .int .i64 (if 2 < l then q.c else 0), .int .i64 (if 3 < l then q.d else 0)]
theorem part_size (q : Q4) (l : Nat) : (part q l).size = 4 := rfl
theorem part_all (q : Q4) : part q 4 = (encQ4 q).toArray := rfl
theorem part_at (q : Q4) {l : Nat} (h : l < 4) : (part q l)[l]? = some (.int .i64 0) := by
  match l, h with
  | 0, _ => rfl
  | 1, _ => rfl
  | 2, _ => rfl
  | 3, _ => rfl
theorem part_set (q : Q4) {l : Nat} (h : l < 4) : (part q l).setIfInBounds l (.int .i64 (q.at_ l)) = part q (l + 1) := by
  match l, h with
  | 0, _ => rfl
  | 1, _ => rfl
  | 2, _ => rfl
  | 3, _ => rfl
theorem part_skip (q : Q4) {l : Nat} (h : l < 4) (h0 : q.at_ l = 0) : part q l = part q (l + 1) := by
  rw [← part_set q h, h0]
  apply Array.ext_getElem?
  intro i
  by_cases hi : i = l
  · subst hi; rw [part_at q h, Array.getElem?_setIfInBounds_self_of_lt (by rw [part_size]; exact h)]
  · rw [Array.getElem?_setIfInBounds_ne (by omega)]
theorem fill_row {w wo wr : World} {k c' l : Nat} {A' : Option Addr} {gs : List Nat} {os : List Q4} {q : Q4} {x : Fac} (hb2 : Below w.heap.size w wr) (hO : wr.ownsRow w.heap.size 46 1 (.slice A' k c') k (gs.flatMap encG))
    (hQ : RowsOk wr w.heap.size gs os) (BX : Blk wr wo.heap.size 82 #[.string x.l, .int .i64 x.a, .int .i64 x.b]) (BL : Blk wr (wo.heap.size + 1) 2 (part q l)) (hgs : ∀ (i g : Nat), gs[i]? = some g → g < wo.heap.size)
    (hw : w.heap.size ≤ wo.heap.size + 1) (hl : l < 4) :
    Below w.heap.size w (wr.setCell ⟨wo.heap.size + 1, l, none⟩ (.int .i64 (q.at_ l))) ∧ (wr.setCell ⟨wo.heap.size + 1, l, none⟩ (.int .i64 (q.at_ l))).ownsRow w.heap.size 46 1 (.slice A' k c') k (gs.flatMap encG) ∧
      RowsOk (wr.setCell ⟨wo.heap.size + 1, l, none⟩ (.int .i64 (q.at_ l))) w.heap.size gs os ∧ Blk (wr.setCell ⟨wo.heap.size + 1, l, none⟩ (.int .i64 (q.at_ l))) wo.heap.size 82 #[.string x.l, .int .i64 x.a, .int .i64 x.b] ∧
      Blk (wr.setCell ⟨wo.heap.size + 1, l, none⟩ (.int .i64 (q.at_ l))) (wo.heap.size + 1) 2 (part q (l + 1)) := by
  refine ⟨hb2.setCell hw _, hO.kept (gb_set wr _ _ _) (.inr (own_blk_ne hO BL (by decide)).symm), ⟨hQ.1, fun i g h => ⟨(hQ.2 i g h).1, (hQ.2 i g h).2.far (by have := hgs i g h; show g ≠ wo.heap.size + 1; omega) _⟩⟩, BX.far (by show wo.heap.size ≠ wo.heap.size + 1; omega) _, ?_⟩
  rw [← part_set q hl]
  exact BL.set_ l _
theorem rows_push {w w8 w9 : World} {k c' g : Nat} {A' : Option Addr} {gs : List Nat} {os : List Q4} {q : Q4} {base : Nat} (hO : w8.ownsRow base 46 1 (.slice A' k c') k (gs.flatMap encG)) (hQ : RowsOk w base gs os) (hk : os.length = k)
    (BL : Blk w g 2 (encQ4 q).toArray) (hg : base ≤ g) (h8 : ∀ (g : Nat) (t : TypeId) (cs : Array Value), Blk w g t cs → Blk w8 g t cs) (hg9 : w8.grownBy w9 (Value.slice A' k c').ownBlock) : RowsOk w9 base (gs ++ [g]) (os ++ [q]) := by
  have hlen := hQ.1
  refine ⟨by simp [hlen], fun i p hp => ?_⟩
  by_cases hi : i < os.length
  · rw [List.getElem?_append_left (by omega)] at hp
    obtain ⟨h1, h2⟩ := hQ.2 i p hp
    have h3 := h8 _ _ _ h2
    refine ⟨h1, ?_⟩
    rw [List.getD_eq_getElem?_getD, List.getElem?_append_left hi, ← List.getD_eq_getElem?_getD]
    exact h3.grown hg9 (own_blk_ne hO h3 (by decide))
  · have hi2 : i = os.length := by
      have := (List.getElem?_eq_some_iff.1 hp).1
      simp at this; omega
    subst hi2
    rw [List.getElem?_append_right (by omega), hlen] at hp
    obtain rfl : g = p := by simpa using hp
    have h3 := h8 _ _ _ BL
    refine ⟨hg, ?_⟩
    rw [List.getD_eq_getElem?_getD, List.getElem?_append_right (by omega)]
    simp only [Nat.sub_self, List.getElem?_cons_zero, Option.getD_some]
    exact h3.grown hg9 (own_blk_ne hO h3 (by decide))
set_option maxHeartbeats 2000000 in
set_option maxRecDepth 100000 in
theorem l05Counts_any (gb : Nat) (A : Option Addr) (n c : Nat) (rs : List Fac) (ls : List Int) (w : World) (hg : gb < w.heap.size) (hc : w.cell? ⟨gb, 0, none⟩ = some (.slice A n c)) (hn : n ≤ 1048576) (hr : Rd w w.heap.size A n 3 Fac.cells rs)
    (hls : gLens rs [] = some ls) :
    Calls Try.prog 76 #[.pointer (some ⟨gb, 0, none⟩)] w (RetRows w (cnts rs)) := by
  have hl := Lib.hid hr.len
  have HL := Lib.hid hls; clear hls
  have hmk := make4
  go_enter Try.func76, Try.ntmps76
  go_wp2
  go_loopw [3, 4] (fun o_ i_ w' => ∃ (k : Nat) (A' : Option Addr) (c' : Nat) (gs : List Nat), i_ = .int .i64 k ∧ o_ = .slice A' k c' ∧ k ≤ n ∧
      Hid (w'.ownsRow w.heap.size 46 1 (.slice A' k c') k (gs.flatMap encG)) ∧ Hid (RowsOk w' w.heap.size gs (outs Q4.nil cntF cntG rs k)) ∧ Below w.heap.size w w') (fun _ i_ _ => n - (intOf i_).toNat)
  case atStart =>
    exact ⟨0, _, 0, [], rfl, rfl, by omega, Lib.hid (by simpa using World.ownsRow_made (base := w.heap.size) (e := 46) (size := 1) w #[] 0 (Nat.le_refl _) (by unfold maxLen; omega) rfl), Lib.hid ⟨by simp [outs, foldG], by simp⟩, by (repeat first | exact Below.refl _ _ | assumption | refine Below.drew ?_ | refine Below.alloc ?_ (by first | exact Nat.le_refl _ | (simp; done) | omega | (simp; omega)) _ | refine Below.setCell ?_ (by first | exact Nat.le_refl _ | (simp; done) | omega | (simp; omega)) _)⟩
  case round =>
    obtain ⟨k, A', c', gs, rfl, rfl, hk, hown, hrow, hb⟩ := hrel
    rename World => wo
    have cg := (hb.cell (p := ⟨gb, 0, none⟩) hg).trans hc
    have lg : gb < wo.heap.size := by have := hb.size; omega
    by_cases hlt : k < n
    · obtain ⟨b, o, x, rfl, hB, gx, c0, c1, c2⟩ := (hr.next hb).fac hlt
      have Hst := Lib.hid (outs_step Q4.nil cntF cntG gx)
      have Hol := Lib.hid (outs_len Q4.nil cntF cntG rs k (by rw [hl.out]; exact hk))
      have Gx := Lib.hid gx; clear gx
      go_wp2_with fail
      refine named fun w1 H1 => ?_
      have b1 : Below wo.heap.size wo w1 := by rw [H1.out]; (repeat first | exact Below.refl _ _ | assumption | refine Below.drew ?_ | refine Below.alloc ?_ (by first | exact Nat.le_refl _ | (simp; done) | omega | (simp; omega)) _ | refine Below.setCell ?_ (by first | exact Nat.le_refl _ | (simp; done) | omega | (simp; omega)) _)
      have BX := Lib.hid (show Blk w1 wo.heap.size 82 #[.string x.l, .int .i64 x.a, .int .i64 x.b] by rw [H1.out]; exact (Blk.new wo _ _).alloc _)
      have BL := Lib.hid (show Blk w1 (wo.heap.size + 1) 2 (part (fStep Q4.nil cntF cntG (outs Q4.nil cntF cntG rs k) x) 0) by rw [H1.out]; simpa [part] using Blk.new (wo.alloc _) 2 #[.int .i64 0, .int .i64 0, .int .i64 0, .int .i64 0])
      clear H1
      have hQ := Lib.hid (show RowsOk w1 w.heap.size gs (outs Q4.nil cntF cntG rs k) from ⟨hrow.out.1, fun i g h => ⟨(hrow.out.2 i g h).1, (hrow.out.2 i g h).2.next b1⟩⟩)
      have hO := Lib.hid (own_next hown.out b1)
      have cb1 := hb.trans (b1.mono hb.size)
      have sz1 := BL.out.lt
      generalize hq : fStep Q4.nil cntF cntG (outs Q4.nil cntF cntG rs k) x = q at *
      have Hq := Lib.hid hq; clear hq
      have hgs := Lib.hid (fun (i g : Nat) (h : gs[i]? = some g) => (hrow.out.2 i g h).2.lt)
      clear cg c0 c1 c2 hown hrow
      go_loopw [7] (fun l_ w' => ∃ (l : Nat), l_ = .int .i64 l ∧ l ≤ 4 ∧ Below w.heap.size w w' ∧ Hid (w'.ownsRow w.heap.size 46 1 (.slice A' k c') k (gs.flatMap encG)) ∧ Hid (RowsOk w' w.heap.size gs (outs Q4.nil cntF cntG rs k)) ∧
          Hid (Blk w' wo.heap.size 82 #[.string x.l, .int .i64 x.a, .int .i64 x.b]) ∧ Hid (Blk w' (wo.heap.size + 1) 2 (part q l))) (fun l_ _ => 4 - (intOf l_).toNat)
      case atStart => exact ⟨0, rfl, by omega, cb1, hO, hQ, BX, BL⟩
      case round =>
        obtain ⟨l, rfl, hl4, hb2, hO2, hQ2, BX2, BL2⟩ := hrel
        clear hO hQ BX BL
        obtain ⟨d0, d1, d2⟩ := BX2.out.three
        have lx := BX2.out.lt
        have ll := BL2.out.lt
        by_cases hl' : l < 4
        · have cl := BL2.out.cell l
          rw [part_at q hl'] at cl
          have fl := BL2.out.frozen l
          have j0 : (0 : Int) ≤ (l : Int) := by omega
          have j1 : (l : Int) < 4 := by omega
          have j2 : ((l : Int)).toNat = l := by omega
          rcases wf_of HL.out k x Gx.out with ⟨h0, ha0, ha1, hb0, hb1⟩ | ⟨cc, hcc, hxl, hxa, hxb⟩
          · have e0 := size0 h0
            have hkr : k ≤ rs.length := by rw [hl.out]; exact hk
            have q1 := cnt_at HL.out (k := x.a.toNat) (by omega) l
            have q2 := cnt_at HL.out (k := x.b.toNat) (by omega) l
            rw [← outs_full Q4.nil cntF cntG (k := k) (i := x.a.toNat) (by omega) hkr] at q1
            rw [← outs_full Q4.nil cntF cntG (k := k) (i := x.b.toNat) (by omega) hkr] at q2
            obtain ⟨p, ga, rfl, hp0, hp1, gga, ea⟩ := encG_at hO2.out (hQ2.out.1.trans Hol.out) (i := x.a.toNat) (by omega)
            obtain ⟨p', gbb, hpp, _, _, ggb, eb⟩ := encG_at hO2.out (hQ2.out.1.trans Hol.out) (i := x.b.toNat) (by omega)
            obtain rfl : p = p' := by injection hpp with hpp; injection hpp
            obtain ⟨hga, BA⟩ := hQ2.out.2 _ _ gga
            obtain ⟨hgb, BB⟩ := hQ2.out.2 _ _ ggb
            have va := BA.cell l
            have vb := BB.cell l
            rw [List.getElem?_toArray, encQ4_at _ hl'] at va vb
            have Hv := Lib.hid (show ((outs Q4.nil cntF cntG rs k).getD x.a.toNat Q4.nil).at_ l + ((outs Q4.nil cntF cntG rs k).getD x.b.toNat Q4.nil).at_ l = q.at_ l by
              rw [← Hq.out]; unfold fStep; rw [if_pos h0, cntG_at])
            generalize ((outs Q4.nil cntF cntG rs k).getD x.a.toNat Q4.nil).at_ l = va_ at *
            generalize ((outs Q4.nil cntF cntG rs k).getD x.b.toNat Q4.nil).at_ l = vb_ at *
            have u1 : IntKind.i64.wrap (va_ + vb_) = va_ + vb_ := IntWalk.i64_in _ (by omega)
            have z1 := BA.lt
            have z2 := BB.lt
            have n1 := hgs.out _ _ gga
            have n2 := hgs.out _ _ ggb
            have hpl : p ≠ wo.heap.size + 1 := fun he => own_blk_ne hO2.out BL2.out (by decide) (by rw [← he]; rfl)
            clear h0 hpp gga ggb BA BB
            go_wp2_with fail
            go_region
            rw [Hv.out]
            generalize hW : (wr.setCell ⟨wo.heap.size + 1, l, none⟩ (.int .i64 (q.at_ l))).drew = w8
            have H8 := Lib.hid hW.symm; clear hW
            have S8 := Lib.hid (show Below w.heap.size w w8 ∧ w8.ownsRow w.heap.size 46 1 (.slice (some ⟨p, 0, none⟩) k c') k (gs.flatMap encG) ∧ RowsOk w8 w.heap.size gs (outs Q4.nil cntF cntG rs k) ∧
                Blk w8 wo.heap.size 82 #[.string x.l, .int .i64 x.a, .int .i64 x.b] ∧ Blk w8 (wo.heap.size + 1) 2 (part q (l + 1)) from by
              rw [H8.out]
              have S := fill_row hb2 hO2.out hQ2.out BX2.out BL2.out hgs.out (by have := hb.size; omega) hl'
              exact ⟨S.1.drew, S.2.1.drew, S.2.2.1, S.2.2.2.1.drew, S.2.2.2.2.drew⟩)
            clear H8
            go_wp2_with fail
            go_roundw
            case rel => exact ⟨l + 1, by go_num, by omega, S8.out.1, Lib.hid S8.out.2.1, Lib.hid S8.out.2.2.1, Lib.hid S8.out.2.2.2.1, Lib.hid S8.out.2.2.2.2⟩
            case measure => simp [intOf]; omega
          · have hq1 : q.at_ l = if cc.toNat - 97 = l then 1 else 0 := by
              rw [← Hq.out]; unfold fStep
              rw [if_neg (by rw [hxl]; show ¬ (1 : Nat) = 0; omega), cntF_at _ hl', hxl, letN_one]
            obtain ⟨xl, xa, xb⟩ := x
            simp only at hxl hxa hxb d0 d1 d2
            subst hxl hxa hxb
            obtain ⟨hl0, hl1⟩ := letB_num hcc
            have e1 := size1 (s := ⟨#[cc]⟩) (show (1 : Nat) ≠ 0 by omega)
            have e2 := size1' (s := ⟨#[cc]⟩) (show (1 : Nat) ≠ 0 by omega)
            have Hcc := Lib.hid hcc
            clear hcc cl fl
            go_wp2_with fail
            refine (l04Letter_any cc Hcc.out _).mono ?_
            rintro e w3 ⟨rfl, hb3⟩
            have b3 := hb2.trans (hb3.mono hb2.size)
            have BX3 := Lib.hid (BX2.out.next hb3)
            have BL3 := Lib.hid (BL2.out.next hb3)
            have hO3 := Lib.hid (own_next hO2.out hb3)
            have hQ3 := Lib.hid (show RowsOk w3 w.heap.size gs (outs Q4.nil cntF cntG rs k) from ⟨hQ2.out.1, fun i g h => ⟨(hQ2.out.2 i g h).1, (hQ2.out.2 i g h).2.next hb3⟩⟩)
            have cl := BL3.out.cell l
            rw [part_at q hl'] at cl
            have fl := BL3.out.frozen l
            have ll3 := BL3.out.lt
            by_cases hc' : cc.toNat - 97 = l
            · rw [if_pos hc'] at hq1
              have e3 : ((l : Int) == (cc.toNat : Int) - 97) = true := by simp; omega
              have S8 := Lib.hid (fill_row (x := ⟨⟨#[cc]⟩, 0, 0⟩) b3 hO3.out hQ3.out BX3.out BL3.out hgs.out (by have := hb.size; omega) hl')
              rw [hq1] at S8
              clear hc'
              go_wp2_with fail
              go_roundw
              case rel => exact ⟨l + 1, by go_num, by omega, S8.out.1, Lib.hid S8.out.2.1, Lib.hid S8.out.2.2.1, Lib.hid S8.out.2.2.2.1, Lib.hid S8.out.2.2.2.2⟩
              case measure => simp [intOf]; omega
            · rw [if_neg hc'] at hq1
              have e3 : ((l : Int) == (cc.toNat : Int) - 97) = false := by simp; omega
              have BL4 := Lib.hid (show Blk w3 (wo.heap.size + 1) 2 (part q (l + 1)) by rw [← part_skip q hl' hq1]; exact BL3.out)
              clear hc'
              go_wp2_with fail
              go_roundw
              case rel => exact ⟨l + 1, by go_num, by omega, b3, hO3, hQ3, BX3, BL4⟩
              case measure => simp [intOf]; omega
        · obtain rfl : l = 4 := by omega
          rw [part_all] at BL2
          go_wp2_with
            (at_builtin
             refine wpList_pushG rfl _ _ _ rfl w.heap.size 46 1 24 elemG encG _ k c' gs rfl (hO2.out.alloc _) wr.heap.size (wo.heap.size + 1) #[.slice (some ⟨wo.heap.size + 1, 0, none⟩) 4 4] 46 (0, 0) rfl (heap_alloc_new _ _) rfl rfl (one_encG _) (by omega) (by omega) (by unfold maxLen; omega) (by have := hb2.size; simp; omega) ?_
             intro A9 c9 w9 own9 hg9 hat9
             have O9 := Lib.hid own9
             have hz9 : w.heap.size ≤ (wr.alloc (Obj.cells #[Value.slice (some { block := wo.heap.size + 1, off := 0 }) 4 4] 46)).heap.size := (by have := hb2.size; simp; omega)
             have hb9 := Lib.hid ((hb2.alloc hb2.size _).grown hg9 hz9 (own_ge hO2.out))
             have G9 := Lib.hid hg9
             clear own9 hat9 hg9)
          go_roundw
          case rel =>
            refine ⟨k + 1, A9, c9, gs ++ [wo.heap.size + 1], by go_num, rfl, by omega, O9, Lib.hid ?_, hb9.out⟩
            rw [Hst.out]
            exact rows_push (hO2.out.alloc _) hQ2.out Hol.out BL2.out (by have := hb.size; omega) (fun g t cs h => h.alloc _) G9.out
          case measure => simp [intOf]; omega
    · have e := Lib.hid (show outs Q4.nil cntF cntG rs k = cnts rs from outs_all Q4.nil cntF cntG rs k (by rw [hl.out]; omega))
      have e2 := Lib.hid (outs_len Q4.nil cntF cntG rs k (by rw [hl.out]; omega))
      have hrow' := Lib.hid (show RowsOk wo w.heap.size gs (cnts rs) by rw [← e.out]; exact hrow.out)
      have e3 := Lib.hid (show (cnts rs).length = k by rw [← e.out, e2.out])
      go_wp2_with fail
      go_ret
      refine ⟨A', c', gs, ret_slice e3.out.symm, ?_, hrow'.out, hb⟩
      rw [e3.out]
      exact hown.out
end Go.Proofs.Ytgdbpkpaacbhhaa


/-
  The rules that are met when the last rule is taken apart for a part of its word: (Grammar).pieces, by the contract of the function that it is handed.
-/
namespace Go.Proofs.Ytgdbpkpaacbhhaa
open Go.RowKit

theorem Rd.i64 {w : World} {B n : Nat} {A : Option Addr} {xs : List Int} {k : Nat} (h : Rd w B A n 1 intE xs) (hk : k < n) :
    ∃ b o, A = some ⟨b, o, none⟩ ∧ b < B ∧ w.cell? ⟨b, o + k, none⟩ = some (.int .i64 (xs.getD k 0)) := by
  obtain ⟨b, o, hA, hb, x, hx, hc⟩ := h.at_ hk
  refine ⟨b, o, hA, hb, ?_⟩
  have := hc 0 _ rfl
  rw [List.getD_eq_getElem?_getD, hx]
  simpa using this
/-- the rules that are met -/
def pcs (ls : List Int) (rs : List Fac) (i j : Int) : Nat → Nat → Int → List Nat
  | 0, _, _ => []
  | f + 1, r, a =>
    if a + ls.getD r 0 ≤ i then [] else if j ≤ a then [] else if i ≤ a ∧ a + ls.getD r 0 ≤ j then [r] else
    match rs[r]? with
    | none => []
    | some x => pcs ls rs i j f x.a.toNat a ++ pcs ls rs i j f x.b.toNat (a + ls.getD x.a.toNat 0)
theorem pcs_out1 {ls : List Int} {rs : List Fac} {i j : Int} {f r : Nat} {a : Int} (h : a + ls.getD r 0 ≤ i) : pcs ls rs i j f r a = [] := by
  cases f with
  | zero => rfl
  | succ f => rw [pcs, if_pos h]
theorem pcs_out2 {ls : List Int} {rs : List Fac} {i j : Int} {f r : Nat} {a : Int} (h : j ≤ a) : pcs ls rs i j f r a = [] := by
  cases f with
  | zero => rfl
  | succ f => rw [pcs, if_pos h]; split <;> rfl
theorem pcs_in {ls : List Int} {rs : List Fac} {i j : Int} {f r : Nat} {a : Int} (hf : r < f) (h1 : ¬ a + ls.getD r 0 ≤ i) (h2 : ¬ j ≤ a) (h3 : i ≤ a) (h4 : a + ls.getD r 0 ≤ j) : pcs ls rs i j f r a = [r] := by
  obtain ⟨g, rfl⟩ : ∃ g, f = g + 1 := ⟨f - 1, by omega⟩
  rw [pcs, if_neg h1, if_neg h2, if_pos ⟨h3, h4⟩]
theorem pcs_go {ls : List Int} {rs : List Fac} {i j : Int} {f r : Nat} {a : Int} {x : Fac} (hf : r < f) (h1 : ¬ a + ls.getD r 0 ≤ i) (h2 : ¬ j ≤ a) (h3 : ¬ (i ≤ a ∧ a + ls.getD r 0 ≤ j)) (hx : rs[r]? = some x) :
    pcs ls rs i j f r a = pcs ls rs i j (f - 1) x.a.toNat a ++ pcs ls rs i j (f - 1) x.b.toNat (a + ls.getD x.a.toNat 0) := by
  obtain ⟨g, rfl⟩ : ∃ g, f = g + 1 := ⟨f - 1, by omega⟩
  rw [pcs, if_neg h1, if_neg h2, if_neg h3, hx]
  rfl
theorem pcs_fuel {ls : List Int} {rs : List Fac} {i j : Int} (hls : gLens rs [] = some ls) : ∀ {r f g : Nat} {a : Int}, r < f → r < g → pcs ls rs i j f r a = pcs ls rs i j g r a := by
  intro r
  induction r using Nat.strongRecOn with
  | ind r ih =>
    intro f g a hf hg
    by_cases h1 : a + ls.getD r 0 ≤ i
    · rw [pcs_out1 h1, pcs_out1 h1]
    by_cases h2 : j ≤ a
    · rw [pcs_out2 h2, pcs_out2 h2]
    by_cases h3 : i ≤ a ∧ a + ls.getD r 0 ≤ j
    · rw [pcs_in hf h1 h2 h3.1 h3.2, pcs_in hg h1 h2 h3.1 h3.2]
    rcases hx : rs[r]? with _ | x
    · obtain ⟨f', rfl⟩ : ∃ f', f = f' + 1 := ⟨f - 1, by omega⟩
      obtain ⟨g', rfl⟩ : ∃ g', g = g' + 1 := ⟨g - 1, by omega⟩
      rw [pcs, pcs, if_neg h1, if_neg h1, if_neg h2, if_neg h2, if_neg h3, if_neg h3, hx]
    · rcases wf_of hls r x hx with ⟨h0, ha0, ha1, hb0, hb1⟩ | ⟨cc, _, hxl, hxa, hxb⟩
      · rw [pcs_go hf h1 h2 h3 hx, pcs_go hg h1 h2 h3 hx, ih x.a.toNat (by omega) (f := f - 1) (g := g - 1) (by omega) (by omega), ih x.b.toNat (by omega) (f := f - 1) (g := g - 1) (by omega) (by omega)]
      · exfalso
        have h0 : x.l.size ≠ 0 := by rw [hxl]; show (1 : Nat) ≠ 0; omega
        have := lens_let hls hx h0
        apply h3
        omega
def takeV (b0 : Nat) : Value := .func (.func 85) #[] #[.pointer (some ⟨b0 + 1, 0, none⟩), .pointer (some ⟨b0 + 2, 0, none⟩), .pointer (some ⟨b0 + 3, 0, none⟩), .pointer (some ⟨b0 + 4, 0, none⟩), .pointer (some ⟨b0, 0, none⟩), .pointer (some ⟨b0 + 5, 0, none⟩)]
/-- the boxes of 'pieces', and the lists that it reads -/
def PEnv (B b0 : Nat) (A : Option Addr) (n c : Nat) (rs : List Fac) (A2 : Option Addr) (c2 : Nat) (ls : List Int) (i j : Int) (fp : Nat) (cp : Array Value) (w : World) : Prop :=
  Blk w b0 26 #[.slice A n c] ∧ Blk w (b0 + 1) 46 #[.slice A2 n c2] ∧ Blk w (b0 + 2) 2 #[.int .i64 i] ∧ Blk w (b0 + 3) 2 #[.int .i64 j] ∧
    Blk w (b0 + 4) 85 #[.func (.func fp) #[] cp] ∧ Blk w (b0 + 5) 116 #[takeV b0] ∧ Rd w B A n 3 Fac.cells rs ∧ Rd w B A2 n 1 intE ls
section
variable {B b0 : Nat} {A : Option Addr} {n c : Nat} {rs : List Fac} {A2 : Option Addr} {c2 : Nat} {ls : List Int} {i j : Int} {fp : Nat} {cp : Array Value} {w w' : World}
theorem PEnv.next (h : PEnv B b0 A n c rs A2 c2 ls i j fp cp w) (hB : B ≤ b0) (hb : Below w.heap.size w w') : PEnv B b0 A n c rs A2 c2 ls i j fp cp w' := by
  obtain ⟨h0, h1, h2, h3, h4, h5, h6, h7⟩ := h
  have := h0.lt
  exact ⟨h0.next hb, h1.next hb, h2.next hb, h3.next hb, h4.next hb, h5.next hb, h6.next' (by omega) hb, h7.next' (by omega) hb⟩
theorem PEnv.grown {ob : Nat} (h : PEnv B b0 A n c rs A2 c2 ls i j fp cp w) (hB : B ≤ ob) (ho : ob < b0) (hb : w.grownBy w' (some ob)) : PEnv B b0 A n c rs A2 c2 ls i j fp cp w' := by
  obtain ⟨h0, h1, h2, h3, h4, h5, h6, h7⟩ := h
  have := h0.lt
  have ne : ∀ k, b0 ≤ k → some k ≠ some ob := fun k hk e => by injection e with e; omega
  exact ⟨h0.grown hb (ne _ (by omega)), h1.grown hb (ne _ (by omega)), h2.grown hb (ne _ (by omega)), h3.grown hb (ne _ (by omega)), h4.grown hb (ne _ (by omega)), h5.grown hb (ne _ (by omega)),
    h6.grown (by omega) hb (fun k hk => by injection hk with hk; omega), h7.grown (by omega) hb (fun k hk => by injection hk with hk; omega)⟩
end
section
variable {S : Type} (Inv : S → World → Prop) (step : S → Nat → S) (hI : ∀ s w w', Inv s w → Below w.heap.size w w' → Inv s w') (B ob b0 : Nat) (hBo : B ≤ ob) (hob : ob < b0) (A : Option Addr) (n c : Nat) (rs : List Fac) (A2 : Option Addr) (c2 : Nat) (ls : List Int) (i j : Int)
  (fp : Nat) (ep : EnterOk fp) (cp : Array Value) (hn : n ≤ 1048576) (hls : gLens rs [] = some ls)
  (hW : ∀ (s : S) (k : Nat) (w : World), k < n → Inv s w → Calls Try.prog fp (#[.int .i64 (k : Int)] ++ cp) w (fun e w' => e = .returned (.tuple #[]) ∧ w.grownBy w' (some ob) ∧ Inv (step s k) w'))
include hI hBo hob ep hn hls hW
omit hn in
set_option maxHeartbeats 1000000 in
set_option maxRecDepth 100000 in
theorem take_any : ∀ (r : Nat) (a : Int) (s : S) (w : World), r < n → 0 ≤ a → a + ls.getD r 0 ≤ 1000000000000000 → PEnv B b0 A n c rs A2 c2 ls i j fp cp w → Inv s w →
    Calls Try.prog 85 #[.int .i64 (r : Int), .int .i64 a, .pointer (some ⟨b0 + 1, 0, none⟩), .pointer (some ⟨b0 + 2, 0, none⟩), .pointer (some ⟨b0 + 3, 0, none⟩), .pointer (some ⟨b0 + 4, 0, none⟩), .pointer (some ⟨b0, 0, none⟩), .pointer (some ⟨b0 + 5, 0, none⟩)] w
      (fun e w' => e = .returned (.tuple #[]) ∧ w.grownBy w' (some ob) ∧ Inv ((pcs ls rs i j (r + 1) r a).foldl step s) w') := by
  intro r
  induction r using Nat.strongRecOn with
  | ind r ih =>
    intro a s w hr ha ha2 hE hS
    have IH := Lib.hid ih; clear ih
    have HW := Lib.hid hW
    have HI := Lib.hid hI
    have HE := Lib.hid hE
    have HS := Lib.hid hS
    have HL := Lib.hid hls
    obtain ⟨e0, e1, e2, e3, e4, e5, e6, e7⟩ := hE
    have hl := Lib.hid e6.len
    have z0 := e0.lt; have z1 := e1.lt; have z2 := e2.lt; have z3 := e3.lt; have z4 := e4.lt; have z5 := e5.lt
    have d0 := e0.cell 0; have d1 := e1.cell 0; have d2 := e2.cell 0; have d3 := e3.cell 0; have d4 := e4.cell 0; have d5 := e5.cell 0
    have hBs : B ≤ w.heap.size := by omega
    have d5' : w.cell? ⟨b0 + 5, 0, none⟩ = some (takeV b0) := d5
    clear d5
    unfold takeV at d5'
    obtain ⟨p2, o2, rfl, hB2, c2'⟩ := (e7.more hBs).i64 (k := r) hr
    obtain ⟨b, o, x, rfl, hB1, gx, c00, c01, c02⟩ := (e6.more hBs).fac hr
    have lb := lens_bound HL.out (i := r) (by rw [hl.out]; exact hr)
    have Gx := Lib.hid gx
    clear hS e0 e1 e2 e3 e4 e5 e6 e7 hW hI gx
    have et := enterOk Try.func85 (by kernel_rfl) (by kernel_rfl)
    unfold EnterOk at et
    have ep' := ep
    unfold EnterOk at ep'
    generalize hlr : ls.getD r 0 = lr at *
    obtain ⟨lb0, lb1⟩ := lb
    have u1 : IntKind.i64.wrap (a + lr) = a + lr := IntWalk.i64_in _ (by omega)
    have i1 : (0 : Int) ≤ (r : Int) := by omega
    have i2 : (r : Int) < n := by omega
    by_cases h1 : a + lr ≤ i
    · have e := Lib.hid (show pcs ls rs i j (r + 1) r a = [] from pcs_out1 (by rw [hlr]; exact h1))
      go_enter Try.func85, Try.ntmps85
      go_wp2_with fail
      refine bodyPost_ret (results_none rfl _ _ _) rfl ?_
      exact ⟨rfl, gb_below (Below.refl _ _), by rw [e.out]; exact HS.out⟩
    by_cases h2 : j ≤ a
    · have e := Lib.hid (show pcs ls rs i j (r + 1) r a = [] from pcs_out2 h2)
      go_enter Try.func85, Try.ntmps85
      go_wp2_with fail
      refine bodyPost_ret (results_none rfl _ _ _) rfl ?_
      exact ⟨rfl, gb_below (Below.refl _ _), by rw [e.out]; exact HS.out⟩
    by_cases h3 : i ≤ a ∧ a + lr ≤ j
    · have e := Lib.hid (show pcs ls rs i j (r + 1) r a = [r] from pcs_in (by omega) (by rw [hlr]; exact h1) h2 h3.1 (by rw [hlr]; exact h3.2))
      obtain ⟨h30, h31⟩ := h3
      go_enter Try.func85, Try.ntmps85
      go_wp2_with fail
      refine (HW.out s r w hr HS.out).mono ?_
      rintro e1 w1 ⟨rfl, hg1, hs1⟩
      go_wp2_with fail
      refine bodyPost_ret (results_none rfl _ _ _) rfl ?_
      exact ⟨rfl, hg1, by rw [e.out]; exact hs1⟩
    · have e := Lib.hid (show pcs ls rs i j (r + 1) r a = _ from pcs_go (by omega) (by rw [hlr]; exact h1) h2 (by rw [hlr]; exact h3) Gx.out)
      rw [Nat.add_sub_cancel] at e
      rcases wf_of HL.out r x Gx.out with ⟨h0, ha0, ha1, hb0', hb1'⟩ | ⟨cc, _, hxl, _⟩
      case inr =>
        exfalso
        have h0 : x.l.size ≠ 0 := by rw [hxl]; show (1 : Nat) ≠ 0; omega
        have := lens_let HL.out Gx.out h0
        apply h3
        omega
      have lp := lens_pair HL.out Gx.out h0
      have lb2 := lens_bound HL.out (i := x.a.toNat) (by rw [hl.out]; omega)
      have lb3 := lens_bound HL.out (i := x.b.toNat) (by rw [hl.out]; omega)
      have hnot : i ≤ a → ¬ (a + lr ≤ j) := fun h4 h5 => h3 ⟨h4, h5⟩
      by_cases h4 : i ≤ a
      all_goals
        try have h5 := hnot h4
        clear hnot h3
        go_enter Try.func85, Try.ntmps85
        go_wp2_with fail
        refine namedC fun w1 H1 => ?_
        have hb1 : Below w.heap.size w w1 := by rw [H1.out]; (repeat first | exact Below.refl _ _ | assumption | refine Below.drew ?_ | refine Below.alloc ?_ (by first | exact Nat.le_refl _ | (simp; done) | omega | (simp; omega)) _ | refine Below.setCell ?_ (by first | exact Nat.le_refl _ | (simp; done) | omega | (simp; omega)) _)
        have BX := Lib.hid (show Blk w1 w.heap.size 82 #[.string x.l, .int .i64 x.a, .int .i64 x.b] by rw [H1.out]; exact Blk.new _ _ _)
        clear H1
        have hx0 := Lib.hid (IH.out x.a.toNat (by omega) a s w1 (by omega) ha (by omega) (HE.out.next (by omega) hb1) (HI.out s w w1 HS.out hb1))
        rw [show ((x.a.toNat : Nat) : Int) = x.a by omega] at hx0
        refine hx0.out.mono ?_
        rintro e1 w2 ⟨rfl, hg2, hs2⟩
        have G2 := Lib.hid (gb_trans (gb_below hb1 (r := some ob)) hg2)
        have HS2 := Lib.hid hs2
        have HE2 := Lib.hid ((HE.out.next (by omega) hb1).grown hBo hob hg2)
        have BX2 := BX.out.grown hg2 (by intro e; injection e with e; omega)
        have BX3 := Lib.hid BX2
        have zx := BX2.lt
        clear hs2 hg2 BX2 d0 d1 d2 d3 d4 d5' c00 c01 c02 c2'
        obtain ⟨e0, e1, e2, e3, e4, e5, e6, e7⟩ := HE2.out
        have z0' := e0.lt; have z1' := e1.lt; have z5' := e5.lt
        have d1 := e1.cell 0
        have d5 : w2.cell? ⟨b0 + 5, 0, none⟩ = some (takeV b0) := e5.cell 0
        unfold takeV at d5
        have hBs2 : B ≤ w2.heap.size := by omega
        obtain ⟨p9, o9, hA9, hB9, c9⟩ := (e7.more hBs2).i64 (k := x.a.toNat) (by omega)
        obtain ⟨rfl, rfl⟩ : p2 = p9 ∧ o2 = o9 := by injection hA9 with hA9; injection hA9 with h1 h2; exact ⟨h1, h2⟩
        have hx1 := Lib.hid (IH.out x.b.toNat (by omega) (a + ls.getD x.a.toNat 0) ((pcs ls rs i j (x.a.toNat + 1) x.a.toNat a).foldl step s) w2.drew (by omega) (by omega) (by omega) (HE2.out.next (by omega) (Below.refl _ _).drew) (HI.out _ _ _ HS2.out (Below.refl _ _).drew))
        rw [show ((x.b.toNat : Nat) : Int) = x.b by omega] at hx1
        have ef := Lib.hid (show (pcs ls rs i j (r + 1) r a).foldl step s = (pcs ls rs i j (x.b.toNat + 1) x.b.toNat (a + ls.getD x.a.toNat 0)).foldl step ((pcs ls rs i j (x.a.toNat + 1) x.a.toNat a).foldl step s) by
          rw [e.out, List.foldl_append, pcs_fuel HL.out (f := r) (g := x.a.toNat + 1) (by omega) (by omega), pcs_fuel HL.out (f := r) (g := x.b.toNat + 1) (by omega) (by omega)])
        generalize hy : ls.getD x.a.toNat 0 = y at *
        have u2 : IntKind.i64.wrap (a + y) = a + y := IntWalk.i64_in _ (by omega)
        have i5 : x.a < (n : Int) := by omega
        have D1 := Lib.hid d1; have D5 := Lib.hid d5; have C9 := Lib.hid c9
        have Hn4 := Lib.hid (show some p2 ≠ some ob from by
          obtain ⟨p9, o9, hA9, hB9', _⟩ := e7.i64 (k := x.a.toNat) (by omega)
          injection hA9 with hA9; injection hA9 with h1 h2
          intro e; injection e with e; omega)
        clear d1 d5 c9
        clear e0 e1 e2 e3 e4 e5 e6 e7 hA9 hx0 h1 h2 lp lb2 lb3 u1 hy hlr lb0 lb1 ha2 h4
        try clear h5
        clear IH HW HI HE HS HL BX e
        go_wp2_with fail
        have d1 := D1.out; have d5 := D5.out; have c9 := C9.out
        obtain ⟨x0, x1, x2⟩ := BX3.out.three
        have n1 : some w.heap.size ≠ some ob := by intro e; injection e with e; omega
        have n2 : some (b0 + 1) ≠ some ob := by intro e; injection e with e; omega
        have n3 : some (b0 + 5) ≠ some ob := by intro e; injection e with e; omega
        have n4 : some p2 ≠ some ob := Hn4.out
        go_region_held3 (fun w' => w'.cell? ⟨w.heap.size, 1, none⟩ = some (.int .i64 x.a) ∧ w'.cell? ⟨w.heap.size, 2, none⟩ = some (.int .i64 x.b) ∧ w'.cell? ⟨b0 + 1, 0, none⟩ = some (.slice (some ⟨p2, o2, none⟩) n c2) ∧
            w'.cell? ⟨b0 + 5, 0, none⟩ = some (.func (.func 85) #[] #[.pointer (some ⟨b0 + 1, 0, none⟩), .pointer (some ⟨b0 + 2, 0, none⟩), .pointer (some ⟨b0 + 3, 0, none⟩), .pointer (some ⟨b0 + 4, 0, none⟩), .pointer (some ⟨b0, 0, none⟩), .pointer (some ⟨b0 + 5, 0, none⟩)]) ∧
            w'.cell? ⟨p2, o2 + x.a.toNat, none⟩ = some (.int .i64 y))
          (first | exact ⟨s0, s1, s2, s3, s4⟩ | exact ⟨x1, x2, d1, d5, c9⟩ | go_keep)
          (first
            | (go_at_call 85
               refine hx1.out.mono ?_
               rintro e9 w3 ⟨rfl, hg3, hs3⟩
               have G3 := Lib.hid (gb_trans G2.out (gb_trans (gb_below (Below.refl w2.heap.size w2).drew (r := some ob)) hg3))
               have s0 : w3.cell? ⟨w.heap.size, 1, none⟩ = some (.int .i64 x.a) := (hg3.cell_far ⟨w.heap.size, 1, none⟩ zx n1).trans x1
               have s1 : w3.cell? ⟨w.heap.size, 2, none⟩ = some (.int .i64 x.b) := (hg3.cell_far ⟨w.heap.size, 2, none⟩ zx n1).trans x2
               have s2 : w3.cell? ⟨b0 + 1, 0, none⟩ = some (.slice (some ⟨p2, o2, none⟩) n c2) := (hg3.cell_far ⟨b0 + 1, 0, none⟩ z1' n2).trans d1
               have s3 := (hg3.cell_far ⟨b0 + 5, 0, none⟩ z5' n3).trans d5
               have s4 : w3.cell? ⟨p2, o2 + x.a.toNat, none⟩ = some (.int .i64 y) := (hg3.cell_far ⟨p2, o2 + x.a.toNat, none⟩ hB9 n4).trans c9
               have HS3 := Lib.hid hs3
               clear hg3 hs3)
            | fail)
        go_wp2_with fail
        go_end0
        exact ⟨rfl, G3.out, by rw [ef.out]; exact HS3.out⟩
/-- the rules that are met, from the last one on -/
def pcsT (ls : List Int) (rs : List Fac) (i j : Int) : List Nat := if 0 < rs.length ∧ i < j then pcs ls rs i j rs.length (rs.length - 1) 0 else []
set_option maxHeartbeats 1000000 in
set_option maxRecDepth 100000 in
theorem pieces_any (s : S) (w : World) (hw : w.heap.size = b0) (hA : Rd w B A n 3 Fac.cells rs) (hA2 : Rd w B A2 n 1 intE ls) (hS : Inv s w) :
    Calls Try.prog 53 #[.agg #[.slice A n c], .slice A2 n c2, .int .i64 i, .int .i64 j, .func (.func fp) #[] cp] w
      (fun e w' => e = .returned (.tuple #[]) ∧ w.grownBy w' (some ob) ∧ Inv ((pcsT ls rs i j).foldl step s) w') := by
  have HW := Lib.hid hW
  have HI := Lib.hid hI
  have HS := Lib.hid hS
  have HL := Lib.hid hls
  have hl := Lib.hid hA.len
  have HA := Lib.hid hA
  have HA2 := Lib.hid hA2
  subst hw
  clear hW hI hS hA hA2 hls
  have et := enterOk Try.func85 (by kernel_rfl) (by kernel_rfl)
  unfold EnterOk at et
  by_cases h0 : n = 0
  · have e := Lib.hid (show pcsT ls rs i j = [] by unfold pcsT; rw [if_neg (by rw [hl.out]; omega)])
    subst h0
    go_enter Try.func53, Try.ntmps53
    go_wp2_with fail
    go_end0
    rw [e.out]
    refine ⟨rfl, gb_below (by (repeat first | exact Below.refl _ _ | assumption | refine Below.drew ?_ | refine Below.alloc ?_ (by first | exact Nat.le_refl _ | (simp; done) | omega | (simp; omega)) _ | refine Below.setCell ?_ (by first | exact Nat.le_refl _ | (simp; done) | omega | (simp; omega)) _)), HI.out _ _ _ HS.out (by (repeat first | exact Below.refl _ _ | assumption | refine Below.drew ?_ | refine Below.alloc ?_ (by first | exact Nat.le_refl _ | (simp; done) | omega | (simp; omega)) _ | refine Below.setCell ?_ (by first | exact Nat.le_refl _ | (simp; done) | omega | (simp; omega)) _))⟩
  by_cases hij : i < j
  · have e := Lib.hid (show pcsT ls rs i j = pcs ls rs i j (n - 1 + 1) (n - 1) 0 by unfold pcsT; rw [if_pos (by rw [hl.out]; omega), hl.out, show n - 1 + 1 = n by omega])
    have h1 : 0 < n := by omega
    have u0 : IntKind.i64.wrap ((n : Int) - 1) = (n : Int) - 1 := IntWalk.i64_in _ (by omega)
    have hlb := lens_bound HL.out (i := n - 1) (by rw [hl.out]; omega)
    go_enter Try.func53, Try.ntmps53
    go_wp2_with fail
    refine namedC fun w1 H1 => ?_
    have hb1 : Below w.heap.size w w1 := by rw [H1.out]; (repeat first | exact Below.refl _ _ | assumption | refine Below.drew ?_ | refine Below.alloc ?_ (by first | exact Nat.le_refl _ | (simp; done) | omega | (simp; omega)) _ | refine Below.setCell ?_ (by first | exact Nat.le_refl _ | (simp; done) | omega | (simp; omega)) _)
    have hE : PEnv B w.heap.size A n c rs A2 c2 ls i j fp cp w1 := by
      refine ⟨?_, ?_, ?_, ?_, ?_, ?_, (HA.out.next' (by omega) hb1), (HA2.out.next' (by omega) hb1)⟩
      · rw [H1.out]; exact (((((Blk.new w _ _).alloc _).alloc _).alloc _).alloc _).alloc _
      · rw [H1.out]; simpa using ((((Blk.new (w.alloc _) _ _).alloc _).alloc _).alloc _).alloc _
      · rw [H1.out]; simpa using (((Blk.new ((w.alloc _).alloc _) _ _).alloc _).alloc _).alloc _
      · rw [H1.out]; simpa using ((Blk.new (((w.alloc _).alloc _).alloc _) _ _).alloc _).alloc _
      · rw [H1.out]; simpa using (Blk.new ((((w.alloc _).alloc _).alloc _).alloc _) _ _).alloc _
      · rw [H1.out]; simpa [takeV] using Blk.new (((((w.alloc _).alloc _).alloc _).alloc _).alloc _) _ _
    have hE' := Lib.hid hE
    clear hE H1
    have ht := take_any Inv step HI.out B ob w.heap.size hBo hob A n c rs A2 c2 ls i j fp ep cp HL.out HW.out (n - 1) 0 s w1 (by omega) (by omega) (by omega) hE'.out (HI.out _ _ _ HS.out hb1)
    rw [show ((n - 1 : Nat) : Int) = (n : Int) - 1 by omega] at ht
    refine (by simpa [Nat.add_assoc] using ht : Calls _ _ _ _ _).mono ?_
    rintro e1 w2 ⟨rfl, hg2, hs2⟩
    have G2 := Lib.hid (gb_trans (gb_below hb1 (r := some ob)) hg2)
    have HS2 := Lib.hid hs2
    clear hg2 hs2 ht
    go_wp2_with fail
    go_end0
    exact ⟨rfl, G2.out, by rw [e.out]; exact HS2.out⟩
  · have e := Lib.hid (show pcsT ls rs i j = [] by unfold pcsT; rw [if_neg (by omega)])
    have h1 : 0 < n := by omega
    go_enter Try.func53, Try.ntmps53
    go_wp2_with fail
    go_end0
    rw [e.out]
    refine ⟨rfl, gb_below (by (repeat first | exact Below.refl _ _ | assumption | refine Below.drew ?_ | refine Below.alloc ?_ (by first | exact Nat.le_refl _ | (simp; done) | omega | (simp; omega)) _ | refine Below.setCell ?_ (by first | exact Nat.le_refl _ | (simp; done) | omega | (simp; omega)) _)), HI.out _ _ _ HS.out (by (repeat first | exact Below.refl _ _ | assumption | refine Below.drew ?_ | refine Below.alloc ?_ (by first | exact Nat.le_refl _ | (simp; done) | omega | (simp; omega)) _ | refine Below.setCell ?_ (by first | exact Nat.le_refl _ | (simp; done) | omega | (simp; omega)) _))⟩
end
end Go.Proofs.Ytgdbpkpaacbhhaa
