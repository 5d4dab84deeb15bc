/-
  Texts of this claim, merged: GramV FacM Rule GramL GtM FoldI Pieces PcsK BldK Tail Stage GtI TrimM Stop.
-/
import Derived.Test.YtnhkoinjjbfofaaDoorP0
import Derived.Deep.RegionHeld3
import Derived.Laws.EntriesVeiled
import Derived.Lib.OthersKept
import Derived.Lib.Builder
import Derived.Lib.AppendStr
import Derived.Lib.UnsafeStr
import Derived.Laws.Externs
import Derived.Test.YtnhkoinjjbfofaaDoorShelf
import Derived.StillTail
import Derived.OrdersHeld
import Derived.Deep.RegionHeld


/-
  Is a grammar valid: in the program.
-/
namespace Go.Proofs.YtnhkoinjjbfofaaDoor
open Go.RowKit

section
variable (A : Option Addr) (n c : Nat) (rs : List Fac) (w : World) (hn : n ≤ 100000000) (hr : Rd w w.heap.size A n 3 Fac.cells rs) (hok : ∀ f ∈ rs, f.l.size ≤ maxLen)
include hn hr hok
theorem validG_any (b : Bool) (hb : (gOk rs).isSome = b) : Calls Tryd.prog 18 #[.agg #[.slice A n c]] w (Ret (.bool b) w) := by
  have Hb := Lib.hid hb; clear hb
  go_enter Tryd.func18, Tryd.ntmps18
  go_wp2_with fail
  refine (lengths_any A n c rs _ hn (hr.next ((Below.refl _ _).alloc (Nat.le_refl _) _)) hok).mono ?_
  rintro e w1 ⟨hb1, ⟨ls, A', c', hg, rfl, hown⟩ | ⟨hg, A', n', c', rfl⟩⟩
  · have e1 := Lib.hid (show true = b by rw [← Hb.out, hg]; rfl)
    clear hg
    go_wp2_with fail
    go_ret
    exact ⟨ret_bool e1.out, ((Below.refl _ _).alloc (Nat.le_refl _) _).trans (hb1.mono (by simp))⟩
  · have e1 := Lib.hid (show false = b by rw [← Hb.out, hg]; rfl)
    clear hg
    go_wp2_with fail
    go_ret
    exact ⟨ret_bool e1.out, ((Below.refl _ _).alloc (Nat.le_refl _) _).trans (hb1.mono (by simp))⟩
end
end Go.Proofs.YtnhkoinjjbfofaaDoor


/-
  Sizes of rules and of factors: the plain part of the laws' helpers.
-/
namespace Go.Proofs.YtnhkoinjjbfofaaDoor
open Go.RowKit

def szFac (left : Int) (f : Fac) : Int := if left < f.l.size then -1 else left - f.l.size

/-- the rest of the loop -/
def szFacs : Int → List Fac → Int
  | left, [] => left
  | left, f :: r => if szFac left f < 0 then -1 else szFacs (szFac left f) r
def szFacAll (left : Int) (fs : List Fac) : Int := if left < fs.length then -1 else szFacs (left - fs.length) fs

theorem szFac_le (left : Int) (f : Fac) (h0 : 0 ≤ left) (h1 : left ≤ 1048576) : szFac left f ≤ 1048576 := by unfold szFac; split <;> omega
theorem eq_fac (f g : Fac) : decide (f = g) = (decide (f.l = g.l) && (decide (f.a = g.a) && decide (f.b = g.b))) := by
  cases f; cases g; simp
def eqFacs : List Fac → List Fac → Bool
  | x :: r, y :: s => decide (x = y) && eqFacs r s
  | _, _ => true
theorem eqFacs_eq : ∀ (a b : List Fac), a.length = b.length → eqFacs a b = decide (a = b)
  | [], [], _ => rfl
  | x :: r, y :: s, h => by
    rw [eqFacs, eqFacs_eq r s (by simpa using h)]
    by_cases h1 : x = y <;> by_cases h2 : r = s <;> simp [h1, h2]

theorem szFacs_le : ∀ (fs : List Fac) (left : Int), 0 ≤ left → szFacs left fs ≤ left
  | [], left, _ => Int.le_refl _
  | f :: r, left, h => by
    unfold szFacs
    split
    · omega
    · have := szFacs_le r (szFac left f) (by omega)
      have h2 : szFac left f ≤ left := by unfold szFac; split <;> omega
      omega
theorem szFacAll_le (left : Int) (fs : List Fac) (h : 0 ≤ left) : szFacAll left fs ≤ left := by
  unfold szFacAll
  split
  · omega
  · have := szFacs_le fs (left - fs.length) (by omega); omega
theorem szFacAll_len (left : Int) (fs : List Fac) (h0 : 0 ≤ szFacAll left fs) : (fs.length : Int) ≤ left := by
  unfold szFacAll at h0
  split at h0 <;> omega

theorem fac_len (f : Fac) : f.cells.length = 3 := rfl
/-- one element more of a block that is being filled -/
theorem fill3 {cs : Array Value} {n k : Nat} {fs : List Fac} {x : Fac} (hs : cs.size = n * 3) (hk : k < n) (hx : fs[k]? = some x)
    (hc : ∀ i y, i < k → fs[i]? = some y → ∀ j, j < 3 → cs[i * 3 + j]? = y.cells[j]?) :
    ((((cs.setIfInBounds (k * 3) (.string x.l)).setIfInBounds (k * 3 + 1) (.int .i64 x.a)).setIfInBounds (k * 3 + 2) (.int .i64 x.b)).size = n * 3) ∧
    ∀ i y, i < k + 1 → fs[i]? = some y → ∀ j, j < 3 → (((cs.setIfInBounds (k * 3) (.string x.l)).setIfInBounds (k * 3 + 1) (.int .i64 x.a)).setIfInBounds (k * 3 + 2) (.int .i64 x.b))[i * 3 + j]? = y.cells[j]? := by
  refine ⟨by simpa using hs, fun i y hi hy j hj => ?_⟩
  by_cases he : i = k
  · subst he
    obtain rfl : x = y := by rw [hx] at hy; exact Option.some.inj hy
    rcases j with _ | _ | _ | j
    · simp [Array.getElem?_setIfInBounds, Fac.cells]; omega
    · simp [Array.getElem?_setIfInBounds, Fac.cells]; omega
    · simp [Array.getElem?_setIfInBounds, Fac.cells]; omega
    · omega
  · rw [Array.getElem?_setIfInBounds_ne (by omega), Array.getElem?_setIfInBounds_ne (by omega), Array.getElem?_setIfInBounds_ne (by omega)]
    exact hc i y (by omega) hy j hj

end Go.Proofs.YtnhkoinjjbfofaaDoor


/-
  What the laws' helpers on lists of rules do: sizes, copies and equality.
-/
namespace Go.Proofs.YtnhkoinjjbfofaaDoor
open Go.RowKit

theorem neq_rule (f g : Fac) (W : World) : (binOp .neq 48 (.agg #[.string f.l, .int .i64 f.a, .int .i64 f.b]) (.agg #[.string g.l, .int .i64 g.a, .int .i64 g.b])).run Tryd.prog W = .ok (.bool (!decide (f = g))) W := by
  rw [eq_fac]
  simp [go_sem, tl_inj]
  by_cases h1 : f.l = g.l <;> by_cases h2 : f.a = g.a <;> by_cases h3 : f.b = g.b <;> simp [h1, h2, h3]

theorem info_iRule : (Tryd.prog.info? 48).map (fun i => (i.zero, i.size, i.bytes)) = some (some (.agg #[.string .empty, .int .i64 0, .int .i64 0]), 3, 32) := by kernel_rfl
end Go.Proofs.YtnhkoinjjbfofaaDoor


/-
  Is a grammar valid, how long is its word: the small functions, in the program and in the reference; copies and equality of grammars in the laws.
-/
namespace Go.Proofs.YtnhkoinjjbfofaaDoor
open Go.RowKit

def lastI (l : List Int) : Int := l.getD (l.length - 1) 0
theorem gOk_lens {rs : List Fac} {ls : List Int} (h : gOk rs = some ls) : gLens rs [] = some ls ∧ rs.length ≤ 400 ∧ ls.length = rs.length := by
  unfold gOk at h
  split at h
  · cases h
  · have := gLens_len rs [] ls h
    exact ⟨h, by omega, by simpa using this⟩
section
variable (gb : Nat) (A : Option Addr) (n c : Nat) (rs : List Fac) (w : World) (hg : gb < w.heap.size) (hc : w.cell? ⟨gb, 0, none⟩ = some (.slice A n c)) (hn : n ≤ 100000000) (hr : Rd w w.heap.size A n 3 Fac.cells rs) (hok : ∀ f ∈ rs, f.l.size ≤ maxLen)
include hg hc hn hr hok
set_option maxHeartbeats 400000 in
theorem l02Lengths_any : Calls Tryd.prog 53 #[.pointer (some ⟨gb, 0, none⟩)] w (LenPost rs w) := by
  have hl := Lib.hid hr.len
  by_cases h4 : 400 < n
  · have e := Lib.hid (show gOk rs = none by unfold gOk; rw [hl.out, if_pos h4])
    go_enter Tryd.func53, Tryd.ntmps53
    go_wp2_with fail
    go_ret2
    exact LenPost.no e.out (by (repeat first | exact Below.refl _ _ | assumption | refine Below.drew ?_ | refine Below.alloc ?_ (by first | exact Nat.le_refl _ | (simp; done) | omega | (simp; omega)) _ | refine Below.setCell ?_ (by first | exact Nat.le_refl _ | (simp; done) | omega | (simp; omega)) _))
  · have e := Lib.hid (show gOk rs = gLens rs [] by unfold gOk; rw [hl.out, if_neg h4])
    go_enter Tryd.func53, Tryd.ntmps53
    go_wp2_with fail
    refine (l02Sizes_any gb A n c rs _ hg hc hn hr hok).mono ?_
    rintro e' w1 ⟨hb1, ⟨ls, A', c', hgl, rfl, hown⟩ | ⟨hgl, A', n', c', rfl⟩⟩
    · have Hgl := Lib.hid hgl; clear hgl
      go_wp2_with fail
      go_ret2
      exact ⟨hb1, .inl ⟨ls, A', c', e.out.trans Hgl.out, rfl, hown⟩⟩
    · have Hgl := Lib.hid hgl; clear hgl
      go_wp2_with fail
      go_ret2
      exact LenPost.no (e.out.trans Hgl.out) hb1
theorem l02Ok_any (b : Bool) (hb : (gOk rs).isSome = b) : Calls Tryd.prog 36 #[.pointer (some ⟨gb, 0, none⟩)] w (Ret (.bool b) w) := by
  have Hb := Lib.hid hb; clear hb
  go_enter Tryd.func36, Tryd.ntmps36
  go_wp2_with fail
  refine (l02Lengths_any gb A n c rs _ hg hc hn hr hok).mono ?_
  rintro e w1 ⟨hb1, ⟨ls, A', c', hg, rfl, hown⟩ | ⟨hg, A', n', c', rfl⟩⟩
  · have e1 := Lib.hid (show true = b by rw [← Hb.out, hg]; rfl)
    clear hg
    go_wp2_with fail
    go_ret
    exact ⟨ret_bool e1.out, hb1⟩
  · have e1 := Lib.hid (show false = b by rw [← Hb.out, hg]; rfl)
    clear hg
    go_wp2_with fail
    go_ret
    exact ⟨ret_bool e1.out, hb1⟩
theorem l02Length_any (ls : List Int) (hls : gLens rs [] = some ls) : Calls Tryd.prog 37 #[.pointer (some ⟨gb, 0, none⟩)] w (Ret (.int .i64 (lastI ls)) w) := by
  have Hls := Lib.hid hls; clear hls
  go_enter Tryd.func37, Tryd.ntmps37
  go_wp2_with fail
  refine (l02Sizes_any gb A n c rs _ hg hc hn hr hok).mono ?_
  rintro e w1 ⟨hb1, ⟨ls', A', c', hg, rfl, hown⟩ | ⟨hg, _⟩⟩
  · obtain rfl : ls = ls' := by rw [Hls.out] at hg; exact Option.some.inj hg
    clear hg
    have Own := Lib.hid hown; clear hown
    by_cases h0 : ls.length = 0
    · have e1 := Lib.hid (show lastI ls = 0 by unfold lastI; rw [List.getD_eq_getElem?_getD, List.getElem?_eq_none (by omega)]; rfl)
      go_wp2_with fail
      go_ret
      exact ⟨ret_int e1.out.symm, hb1⟩
    · have h1 : 0 < ls.length := by omega
      have hle : ls.length ≤ 100000000 := by
        have := gLens_len rs [] ls Hls.out
        have := hr.len
        simp at *; omega
      have e1 := Lib.hid (show lastI ls = ls.getD ((ls.length : Int) - 1).toNat 0 by unfold lastI; congr 1; omega)
      obtain ⟨g, rfl, _, hlt, c1⟩ := own_int Own.out rfl ((ls.length : Int) - 1) (by omega) (by omega)
      have h0' : ¬ ((ls.length : Int) = 0) := by omega
      have h0b : ((ls.length : Int) == 0) = false := by simpa using h0'
      have c2 : w1.cell? ⟨g, ls.length - 1, none⟩ = some (.int .i64 (ls.getD ((ls.length : Int) - 1).toNat 0)) := by rw [← c1]; congr 2; omega
      clear h0 c1
      generalize ls.getD ((ls.length : Int) - 1).toNat 0 = z at *
      go_wp2_with fail
      go_ret
      exact ⟨ret_int e1.out.symm, hb1⟩
  · rw [Hls.out] at hg; cases hg
end
theorem last_any (A : Option Addr) (n c : Nat) (ls : List Int) (w : World) (hn : n ≤ 100000000) (hr : Rd w w.heap.size A n 1 intE ls) :
    Calls Tryd.prog 27 #[.slice A n c] w (Ret (.int .i64 (lastI ls)) w) := by
  have hl := Lib.hid hr.len
  by_cases h0 : n = 0
  · subst h0
    have e1 := Lib.hid (show lastI ls = 0 by unfold lastI; rw [List.getD_eq_getElem?_getD, List.getElem?_eq_none (by rw [hl.out]; omega)]; rfl)
    go_enter Tryd.func27, Tryd.ntmps27
    go_wp2_with fail
    go_ret
    exact ⟨ret_int e1.out.symm, Below.refl _ _⟩
  · have h0b : ((n : Int) == 0) = false := by simpa using h0
    obtain ⟨b, o, x, rfl, hB, gx, c1⟩ := (show Rd w w.heap.size A n 1 (fun s => [.int .i64 s]) ls from hr).int (k := n - 1) (by omega)
    have e1 := Lib.hid (show lastI ls = x by unfold lastI; rw [hl.out, List.getD_eq_getElem?_getD, gx]; rfl)
    have h1 : 0 < n := by omega
    clear h0 gx
    go_enter Tryd.func27, Tryd.ntmps27
    go_wp2_with fail
    go_ret
    exact ⟨ret_int e1.out.symm, Below.refl _ _⟩
/-- a grammar in new memory -/
def RetG (w0 : World) (xs : List Fac) (e : Ending) (w' : World) : Prop :=
  ∃ A c, e = .returned (.agg #[.slice A xs.length c]) ∧ w'.ownsRow w0.heap.size 48 3 (.slice A xs.length c) xs.length (xs.flatMap Fac.cells) ∧ Below w0.heap.size w0 w'
end Go.Proofs.YtnhkoinjjbfofaaDoor


/-
  Grammars that are read: the text of a valid grammar gives it again, and without its last byte it is no text of a grammar. Plain.
-/
namespace Go.Proofs.YtnhkoinjjbfofaaDoor

theorem read_textI {fs : List Fac} (hin : ∀ f ∈ fs, FacIn f) : readI (textT fs ⟨#[]⟩).data.toList = fs := by
  have e : (textT fs ⟨#[]⟩).data.toList = fs.flatMap fun f => bodyL f ++ [10] := by rw [textT_list]; rfl
  unfold readI
  rw [e, spl_lines fs hin, List.dropLast_concat, List.map_map]
  conv => rhs; rw [← List.map_id fs]
  exact List.map_congr_left fun f hf => (body_in (hin f hf)).2.1
/-- what ReadGrammar answers -/
def rdG (s : ByteArray) : List Fac × Int :=
  if 20000 < s.size then ([], 2) else if (gOk (readI s.data.toList)).isSome = true ∧ textT (readI s.data.toList) ⟨#[]⟩ = s then (readI s.data.toList, 0) else ([], 5)
theorem body_small {f : Fac} (h : FacIn f) (ha : f.a < 400) (hb : f.b < 400) : (bodyL f).length ≤ 7 := by
  obtain ⟨l, a, b⟩ := f
  rcases h with ⟨hl, a0, a1, b0, b1⟩ | ⟨c, hc, hl, _, _⟩
  · have hl' : l = ⟨#[]⟩ := hl
    subst hl'
    have d1 := dec_len 2 a.toNat (by show a.toNat < 1000; have ha : a < 400 := ha; omega)
    have d2 := dec_len 2 b.toNat (by show b.toNat < 1000; have hb : b < 400 := hb; omega)
    have ea : bodyL ⟨⟨#[]⟩, a, b⟩ = Lib.decDigits a.toNat ++ 32 :: Lib.decDigits b.toNat := rfl
    rw [ea]
    simp only [List.length_append, List.length_cons]
    omega
  · have hl' : l = ⟨#[c]⟩ := hl
    subst hl'
    show (1 : Nat) ≤ 7
    omega
theorem body_ne {f : Fac} (h : FacIn f) : bodyL f ≠ [] := by
  obtain ⟨l, a, b⟩ := f
  rcases h with ⟨hl, _⟩ | ⟨c, hc, hl, _, _⟩
  · have hl' : l = ⟨#[]⟩ := hl
    subst hl'
    have ea : bodyL ⟨⟨#[]⟩, a, b⟩ = Lib.decDigits a.toNat ++ 32 :: Lib.decDigits b.toNat := rfl
    rw [ea]
    simp
  · have hl' : l = ⟨#[c]⟩ := hl
    subst hl'
    have ea : bodyL ⟨⟨#[c]⟩, a, b⟩ = [c] := rfl
    rw [ea]
    simp
section
variable {rs : List Fac} {ls : List Int}
theorem gin (hls : gOk rs = some ls) : ∀ f ∈ rs, FacIn f ∧ f.a < 400 ∧ f.b < 400 := fun f hf => by
  obtain ⟨hgl, h4, _⟩ := gOk_lens hls
  obtain ⟨k, hk, rfl⟩ := List.getElem_of_mem hf
  rcases (wf_of hgl) k _ (List.getElem?_eq_getElem hk) with ⟨h0, a0, a1, b0, b1⟩ | ⟨ch, hc, q, ha, hb⟩
  · exact ⟨.inl ⟨ba_nil h0, a0, by omega, b0, by omega⟩, by omega, by omega⟩
  · exact ⟨.inr ⟨ch, hc, q, ha, hb⟩, by omega, by omega⟩
theorem flat_small : ∀ (fs : List Fac), (∀ f ∈ fs, FacIn f ∧ f.a < 400 ∧ f.b < 400) → (fs.flatMap fun f => bodyL f ++ [10]).length ≤ 8 * fs.length
  | [], _ => by simp
  | f :: r, h => by
    have h1 := h f List.mem_cons_self
    have h2 := body_small h1.1 h1.2.1 h1.2.2
    have h3 := flat_small r fun x hx => h x (List.mem_cons_of_mem _ hx)
    rw [List.flatMap_cons]
    simp only [List.length_append, List.length_cons, List.length_nil] at *
    omega
theorem gtx_list (rs : List Fac) : (textT rs ⟨#[]⟩).data.toList = rs.flatMap fun f => bodyL f ++ [10] := by rw [textT_list]; rfl
theorem gtx_small (hls : gOk rs = some ls) : (textT rs ⟨#[]⟩).size ≤ 3200 := by
  have h := flat_small rs (gin hls)
  rw [← gtx_list] at h
  have h4 := (gOk_lens hls).2.1
  have : (textT rs ⟨#[]⟩).data.toList.length = (textT rs ⟨#[]⟩).size := by simp
  omega
theorem rdG_text (hls : gOk rs = some ls) : rdG (textT rs ⟨#[]⟩) = (rs, 0) := by
  have h := gtx_small hls
  have hr := read_textI (fun f hf => (gin hls f hf).1)
  unfold rdG
  rw [if_neg (by omega), hr, if_pos ⟨by rw [hls]; rfl, rfl⟩]
/-- a text ends with a newline -/
theorem flat_end : ∀ (fs : List Fac), fs ≠ [] → ∃ X f, (fs.flatMap fun f => bodyL f ++ [10]) = X ++ bodyL f ++ [10] ∧ f ∈ fs
  | [], h => absurd rfl h
  | [f], _ => ⟨[], f, by simp, List.mem_cons_self⟩
  | f :: g :: r, _ => by
    obtain ⟨X, x, e, hx⟩ := flat_end (g :: r) (by simp)
    refine ⟨bodyL f ++ [10] ++ X, x, ?_, List.mem_cons_of_mem _ hx⟩
    rw [List.flatMap_cons, e]
    simp only [List.append_assoc]
theorem gtx_pos (hls : gOk rs = some ls) (h0 : rs ≠ []) : 1 ≤ (textT rs ⟨#[]⟩).size := by
  obtain ⟨X, f, e, hf⟩ := flat_end rs h0
  have h := congrArg List.length (gtx_list rs)
  rw [e] at h
  simp only [List.length_append, List.length_cons, List.length_nil] at h
  have : (textT rs ⟨#[]⟩).data.toList.length = (textT rs ⟨#[]⟩).size := by simp
  omega
theorem rdG_cut (hls : gOk rs = some ls) (h0 : rs ≠ []) : rdG ((textT rs ⟨#[]⟩).extract 0 ((textT rs ⟨#[]⟩).size - 1)) = ([], 5) := by
  have hs := gtx_small hls
  obtain ⟨X, f, e, hf⟩ := flat_end rs h0
  have hb := (gin hls f hf).1
  have hne := body_ne hb
  have h10 := (body_in hb).1
  have hl := gtx_list rs
  generalize textT rs ⟨#[]⟩ = t at *
  have hsz : t.data.toList.length = t.size := by simp
  have hcut : (t.extract 0 (t.size - 1)).data.toList = X ++ bodyL f := by
    rw [ext_take, List.toList_toArray, List.drop_zero, Nat.sub_zero, hl, e]
    rw [hl, e] at hsz
    simp only [List.length_append, List.length_cons, List.length_nil] at hsz
    rw [show t.size - 1 = (X ++ bodyL f).length by rw [List.length_append]; omega, List.take_left' rfl]
  have hsc : (t.extract 0 (t.size - 1)).size ≤ 20000 := by
    have h : (t.extract 0 (t.size - 1)).data.toList.length = (t.extract 0 (t.size - 1)).size := by simp
    rw [hcut] at h
    rw [hl, e] at hsz
    simp only [List.length_append, List.length_cons, List.length_nil] at hsz h
    omega
  generalize t.extract 0 (t.size - 1) = u at *
  unfold rdG
  rw [if_neg (by omega), if_neg]
  rintro ⟨_, h⟩
  have h2 : (textT (readI u.data.toList) ⟨#[]⟩).data.toList = u.data.toList := by rw [h]
  rw [gtx_list, hcut] at h2
  generalize readI (X ++ bodyL f) = R at h2
  by_cases hR : R = []
  · subst hR
    have h3 : X ++ bodyL f = [] := h2.symm
    exact hne (List.append_eq_nil_iff.1 h3).2
  · obtain ⟨Y, g, e2, _⟩ := flat_end R hR
    rw [e2] at h2
    obtain ⟨y, hy⟩ : ∃ y, (bodyL f).getLast? = some y := Option.isSome_iff_exists.1 (by simpa using hne)
    have a1 : (Y ++ bodyL g ++ [10]).getLast? = some 10 := by simp
    have a2 : (X ++ bodyL f).getLast? = some y := by rw [List.getLast?_append, hy]; rfl
    rw [h2, a2] at a1
    have hy10 : (10 : UInt8) = y := (Option.some.inj a1).symm
    exact h10 (hy10 ▸ List.mem_of_getLast? hy)
end
end Go.Proofs.YtnhkoinjjbfofaaDoor


/-
  impl.folded at int64: what it makes of a grammar, by the contracts of the two functions that it is handed.
-/
namespace Go.Proofs.YtnhkoinjjbfofaaDoor
open Go.RowKit

theorem calls_arg {P : Program} {f : FuncId} {a b : Int} {cl : Array Value} {w : World} {Q : Ending → World → Prop} (h : a = b) (hc : Calls P f (#[.int .i64 b] ++ cl) w Q) : Calls P f (#[.int .i64 a] ++ cl) w Q := by rw [h]; exact hc
/-- a function of the program's own, that can be called by its value -/
def EnterOk (f : FuncId) : Prop := ∀ (args : Array Value) (w : World), Sem.run Tryd.prog (callFunc f args) w = .ok (.enter f args) w
theorem enterOk {f : FuncId} {fn : Func} (h : Tryd.prog.funcs[f]? = some fn) (h1 : (fn.name == "runtime.NumGoroutine") = false) (h2 : fn.body.isNone = false) : EnterOk f := by
  intro args w
  have h3 : ¬ fn.name = "runtime.NumGoroutine" := by simpa using h1
  have h4 : ¬ fn.body = none := by intro e; rw [e] at h2; cases h2
  simp [callFunc, h, h3, h4]

end Go.Proofs.YtnhkoinjjbfofaaDoor


/-
  The rules that are met when the last rule is taken apart for a part of its word: (Grammar).pieces, by the contract of the function that it is handed.
-/
namespace Go.Proofs.YtnhkoinjjbfofaaDoor
open Go.RowKit

theorem Rd.i64 {w : World} {B n : Nat} {A : Option Addr} {xs : List Int} {k : Nat} (h : Rd w B A n 1 intE xs) (hk : k < n) :
    ∃ b o, A = some ⟨b, o, none⟩ ∧ b < B ∧ w.cell? ⟨b, o + k, none⟩ = some (.int .i64 (xs.getD k 0)) := by
  obtain ⟨b, o, hA, hb, x, hx, hc⟩ := h.at_ hk
  refine ⟨b, o, hA, hb, ?_⟩
  have := hc 0 _ rfl
  rw [List.getD_eq_getElem?_getD, hx]
  simpa using this
/-- the rules that are met -/
def pcs (ls : List Int) (rs : List Fac) (i j : Int) : Nat → Nat → Int → List Nat
  | 0, _, _ => []
  | f + 1, r, a =>
    if a + ls.getD r 0 ≤ i then [] else if j ≤ a then [] else if i ≤ a ∧ a + ls.getD r 0 ≤ j then [r] else
    match rs[r]? with
    | none => []
    | some x => pcs ls rs i j f x.a.toNat a ++ pcs ls rs i j f x.b.toNat (a + ls.getD x.a.toNat 0)
theorem pcs_out1 {ls : List Int} {rs : List Fac} {i j : Int} {f r : Nat} {a : Int} (h : a + ls.getD r 0 ≤ i) : pcs ls rs i j f r a = [] := by
  cases f with
  | zero => rfl
  | succ f => rw [pcs, if_pos h]
theorem pcs_out2 {ls : List Int} {rs : List Fac} {i j : Int} {f r : Nat} {a : Int} (h : j ≤ a) : pcs ls rs i j f r a = [] := by
  cases f with
  | zero => rfl
  | succ f => rw [pcs, if_pos h]; split <;> rfl
theorem pcs_in {ls : List Int} {rs : List Fac} {i j : Int} {f r : Nat} {a : Int} (hf : r < f) (h1 : ¬ a + ls.getD r 0 ≤ i) (h2 : ¬ j ≤ a) (h3 : i ≤ a) (h4 : a + ls.getD r 0 ≤ j) : pcs ls rs i j f r a = [r] := by
  obtain ⟨g, rfl⟩ : ∃ g, f = g + 1 := ⟨f - 1, by omega⟩
  rw [pcs, if_neg h1, if_neg h2, if_pos ⟨h3, h4⟩]
theorem pcs_go {ls : List Int} {rs : List Fac} {i j : Int} {f r : Nat} {a : Int} {x : Fac} (hf : r < f) (h1 : ¬ a + ls.getD r 0 ≤ i) (h2 : ¬ j ≤ a) (h3 : ¬ (i ≤ a ∧ a + ls.getD r 0 ≤ j)) (hx : rs[r]? = some x) :
    pcs ls rs i j f r a = pcs ls rs i j (f - 1) x.a.toNat a ++ pcs ls rs i j (f - 1) x.b.toNat (a + ls.getD x.a.toNat 0) := by
  obtain ⟨g, rfl⟩ : ∃ g, f = g + 1 := ⟨f - 1, by omega⟩
  rw [pcs, if_neg h1, if_neg h2, if_neg h3, hx]
  rfl
theorem pcs_fuel {ls : List Int} {rs : List Fac} {i j : Int} (hls : gLens rs [] = some ls) : ∀ {r f g : Nat} {a : Int}, r < f → r < g → pcs ls rs i j f r a = pcs ls rs i j g r a := by
  intro r
  induction r using Nat.strongRecOn with
  | ind r ih =>
    intro f g a hf hg
    by_cases h1 : a + ls.getD r 0 ≤ i
    · rw [pcs_out1 h1, pcs_out1 h1]
    by_cases h2 : j ≤ a
    · rw [pcs_out2 h2, pcs_out2 h2]
    by_cases h3 : i ≤ a ∧ a + ls.getD r 0 ≤ j
    · rw [pcs_in hf h1 h2 h3.1 h3.2, pcs_in hg h1 h2 h3.1 h3.2]
    rcases hx : rs[r]? with _ | x
    · obtain ⟨f', rfl⟩ : ∃ f', f = f' + 1 := ⟨f - 1, by omega⟩
      obtain ⟨g', rfl⟩ : ∃ g', g = g' + 1 := ⟨g - 1, by omega⟩
      rw [pcs, pcs, if_neg h1, if_neg h1, if_neg h2, if_neg h2, if_neg h3, if_neg h3, hx]
    · rcases wf_of hls r x hx with ⟨h0, ha0, ha1, hb0, hb1⟩ | ⟨cc, _, hxl, hxa, hxb⟩
      · rw [pcs_go hf h1 h2 h3 hx, pcs_go hg h1 h2 h3 hx, ih x.a.toNat (by omega) (f := f - 1) (g := g - 1) (by omega) (by omega), ih x.b.toNat (by omega) (f := f - 1) (g := g - 1) (by omega) (by omega)]
      · exfalso
        have h0 : x.l.size ≠ 0 := by rw [hxl]; show (1 : Nat) ≠ 0; omega
        have := lens_let hls hx h0
        apply h3
        omega
def takeV (b0 : Nat) : Value := .func (.func 66) #[] #[.pointer (some ⟨b0 + 1, 0, none⟩), .pointer (some ⟨b0 + 2, 0, none⟩), .pointer (some ⟨b0 + 3, 0, none⟩), .pointer (some ⟨b0 + 4, 0, none⟩), .pointer (some ⟨b0, 0, none⟩), .pointer (some ⟨b0 + 5, 0, none⟩)]
/-- the boxes of 'pieces', and the lists that it reads -/
def PEnv (B b0 : Nat) (A : Option Addr) (n c : Nat) (rs : List Fac) (A2 : Option Addr) (c2 : Nat) (ls : List Int) (i j : Int) (fp : Nat) (cp : Array Value) (w : World) : Prop :=
  Blk w b0 26 #[.slice A n c] ∧ Blk w (b0 + 1) 62 #[.slice A2 n c2] ∧ Blk w (b0 + 2) 2 #[.int .i64 i] ∧ Blk w (b0 + 3) 2 #[.int .i64 j] ∧
    Blk w (b0 + 4) 83 #[.func (.func fp) #[] cp] ∧ Blk w (b0 + 5) 103 #[takeV b0] ∧ Rd w B A n 3 Fac.cells rs ∧ Rd w B A2 n 1 intE ls
section
variable {B b0 : Nat} {A : Option Addr} {n c : Nat} {rs : List Fac} {A2 : Option Addr} {c2 : Nat} {ls : List Int} {i j : Int} {fp : Nat} {cp : Array Value} {w w' : World}
theorem PEnv.next (h : PEnv B b0 A n c rs A2 c2 ls i j fp cp w) (hB : B ≤ b0) (hb : Below w.heap.size w w') : PEnv B b0 A n c rs A2 c2 ls i j fp cp w' := by
  obtain ⟨h0, h1, h2, h3, h4, h5, h6, h7⟩ := h
  have := h0.lt
  exact ⟨h0.next hb, h1.next hb, h2.next hb, h3.next hb, h4.next hb, h5.next hb, h6.next' (by omega) hb, h7.next' (by omega) hb⟩
theorem PEnv.grown {ob : Nat} (h : PEnv B b0 A n c rs A2 c2 ls i j fp cp w) (hB : B ≤ ob) (ho : ob < b0) (hb : w.grownBy w' (some ob)) : PEnv B b0 A n c rs A2 c2 ls i j fp cp w' := by
  obtain ⟨h0, h1, h2, h3, h4, h5, h6, h7⟩ := h
  have := h0.lt
  have ne : ∀ k, b0 ≤ k → some k ≠ some ob := fun k hk e => by injection e with e; omega
  exact ⟨h0.grown hb (ne _ (by omega)), h1.grown hb (ne _ (by omega)), h2.grown hb (ne _ (by omega)), h3.grown hb (ne _ (by omega)), h4.grown hb (ne _ (by omega)), h5.grown hb (ne _ (by omega)),
    h6.grown (by omega) hb (fun k hk => by injection hk with hk; omega), h7.grown (by omega) hb (fun k hk => by injection hk with hk; omega)⟩
end
section
variable {S : Type} (Inv : S → World → Prop) (step : S → Nat → S) (hI : ∀ s w w', Inv s w → Below w.heap.size w w' → Inv s w') (B ob b0 : Nat) (hBo : B ≤ ob) (hob : ob < b0) (A : Option Addr) (n c : Nat) (rs : List Fac) (A2 : Option Addr) (c2 : Nat) (ls : List Int) (i j : Int)
  (fp : Nat) (ep : EnterOk fp) (cp : Array Value) (hn : n ≤ 1048576) (hls : gLens rs [] = some ls)
  (hW : ∀ (s : S) (k : Nat) (w : World), k < n → Inv s w → Calls Tryd.prog fp (#[.int .i64 (k : Int)] ++ cp) w (fun e w' => e = .returned (.tuple #[]) ∧ w.grownBy w' (some ob) ∧ Inv (step s k) w'))
include hI hBo hob ep hn hls hW
omit hn in
set_option maxHeartbeats 1000000 in
set_option maxRecDepth 100000 in
theorem take_any : ∀ (r : Nat) (a : Int) (s : S) (w : World), r < n → 0 ≤ a → a + ls.getD r 0 ≤ 1000000000000000 → PEnv B b0 A n c rs A2 c2 ls i j fp cp w → Inv s w →
    Calls Tryd.prog 66 #[.int .i64 (r : Int), .int .i64 a, .pointer (some ⟨b0 + 1, 0, none⟩), .pointer (some ⟨b0 + 2, 0, none⟩), .pointer (some ⟨b0 + 3, 0, none⟩), .pointer (some ⟨b0 + 4, 0, none⟩), .pointer (some ⟨b0, 0, none⟩), .pointer (some ⟨b0 + 5, 0, none⟩)] w
      (fun e w' => e = .returned (.tuple #[]) ∧ w.grownBy w' (some ob) ∧ Inv ((pcs ls rs i j (r + 1) r a).foldl step s) w') := by
  intro r
  induction r using Nat.strongRecOn with
  | ind r ih =>
    intro a s w hr ha ha2 hE hS
    have IH := Lib.hid ih; clear ih
    have HW := Lib.hid hW
    have HI := Lib.hid hI
    have HE := Lib.hid hE
    have HS := Lib.hid hS
    have HL := Lib.hid hls
    obtain ⟨e0, e1, e2, e3, e4, e5, e6, e7⟩ := hE
    have hl := Lib.hid e6.len
    have z0 := e0.lt; have z1 := e1.lt; have z2 := e2.lt; have z3 := e3.lt; have z4 := e4.lt; have z5 := e5.lt
    have d0 := e0.cell 0; have d1 := e1.cell 0; have d2 := e2.cell 0; have d3 := e3.cell 0; have d4 := e4.cell 0; have d5 := e5.cell 0
    have hBs : B ≤ w.heap.size := by omega
    have d5' : w.cell? ⟨b0 + 5, 0, none⟩ = some (takeV b0) := d5
    clear d5
    unfold takeV at d5'
    obtain ⟨p2, o2, rfl, hB2, c2'⟩ := (e7.more hBs).i64 (k := r) hr
    obtain ⟨b, o, x, rfl, hB1, gx, c00, c01, c02⟩ := (e6.more hBs).fac hr
    have lb := lens_bound HL.out (i := r) (by rw [hl.out]; exact hr)
    have Gx := Lib.hid gx
    clear hS e0 e1 e2 e3 e4 e5 e6 e7 hW hI gx
    have et := enterOk Tryd.func66 (by kernel_rfl) (by kernel_rfl)
    unfold EnterOk at et
    have ep' := ep
    unfold EnterOk at ep'
    generalize hlr : ls.getD r 0 = lr at *
    obtain ⟨lb0, lb1⟩ := lb
    have u1 : IntKind.i64.wrap (a + lr) = a + lr := IntWalk.i64_in _ (by omega)
    have i1 : (0 : Int) ≤ (r : Int) := by omega
    have i2 : (r : Int) < n := by omega
    by_cases h1 : a + lr ≤ i
    · have e := Lib.hid (show pcs ls rs i j (r + 1) r a = [] from pcs_out1 (by rw [hlr]; exact h1))
      go_enter Tryd.func66, Tryd.ntmps66
      go_wp2_with fail
      refine bodyPost_ret (results_none rfl _ _ _) rfl ?_
      exact ⟨rfl, gb_below (Below.refl _ _), by rw [e.out]; exact HS.out⟩
    by_cases h2 : j ≤ a
    · have e := Lib.hid (show pcs ls rs i j (r + 1) r a = [] from pcs_out2 h2)
      go_enter Tryd.func66, Tryd.ntmps66
      go_wp2_with fail
      refine bodyPost_ret (results_none rfl _ _ _) rfl ?_
      exact ⟨rfl, gb_below (Below.refl _ _), by rw [e.out]; exact HS.out⟩
    by_cases h3 : i ≤ a ∧ a + lr ≤ j
    · have e := Lib.hid (show pcs ls rs i j (r + 1) r a = [r] from pcs_in (by omega) (by rw [hlr]; exact h1) h2 h3.1 (by rw [hlr]; exact h3.2))
      obtain ⟨h30, h31⟩ := h3
      go_enter Tryd.func66, Tryd.ntmps66
      go_wp2_with fail
      refine (HW.out s r w hr HS.out).mono ?_
      rintro e1 w1 ⟨rfl, hg1, hs1⟩
      go_wp2_with fail
      refine bodyPost_ret (results_none rfl _ _ _) rfl ?_
      exact ⟨rfl, hg1, by rw [e.out]; exact hs1⟩
    · have e := Lib.hid (show pcs ls rs i j (r + 1) r a = _ from pcs_go (by omega) (by rw [hlr]; exact h1) h2 (by rw [hlr]; exact h3) Gx.out)
      rw [Nat.add_sub_cancel] at e
      rcases wf_of HL.out r x Gx.out with ⟨h0, ha0, ha1, hb0', hb1'⟩ | ⟨cc, _, hxl, _⟩
      case inr =>
        exfalso
        have h0 : x.l.size ≠ 0 := by rw [hxl]; show (1 : Nat) ≠ 0; omega
        have := lens_let HL.out Gx.out h0
        apply h3
        omega
      have lp := lens_pair HL.out Gx.out h0
      have lb2 := lens_bound HL.out (i := x.a.toNat) (by rw [hl.out]; omega)
      have lb3 := lens_bound HL.out (i := x.b.toNat) (by rw [hl.out]; omega)
      have hnot : i ≤ a → ¬ (a + lr ≤ j) := fun h4 h5 => h3 ⟨h4, h5⟩
      by_cases h4 : i ≤ a
      all_goals
        try have h5 := hnot h4
        clear hnot h3
        go_enter Tryd.func66, Tryd.ntmps66
        go_wp2_with fail
        refine namedC fun w1 H1 => ?_
        have hb1 : Below w.heap.size w w1 := by rw [H1.out]; (repeat first | exact Below.refl _ _ | assumption | refine Below.drew ?_ | refine Below.alloc ?_ (by first | exact Nat.le_refl _ | (simp; done) | omega | (simp; omega)) _ | refine Below.setCell ?_ (by first | exact Nat.le_refl _ | (simp; done) | omega | (simp; omega)) _)
        have BX := Lib.hid (show Blk w1 w.heap.size 48 #[.string x.l, .int .i64 x.a, .int .i64 x.b] by rw [H1.out]; exact Blk.new _ _ _)
        clear H1
        have hx0 := Lib.hid (IH.out x.a.toNat (by omega) a s w1 (by omega) ha (by omega) (HE.out.next (by omega) hb1) (HI.out s w w1 HS.out hb1))
        rw [show ((x.a.toNat : Nat) : Int) = x.a by omega] at hx0
        refine hx0.out.mono ?_
        rintro e1 w2 ⟨rfl, hg2, hs2⟩
        have G2 := Lib.hid (gb_trans (gb_below hb1 (r := some ob)) hg2)
        have HS2 := Lib.hid hs2
        have HE2 := Lib.hid ((HE.out.next (by omega) hb1).grown hBo hob hg2)
        have BX2 := BX.out.grown hg2 (by intro e; injection e with e; omega)
        have BX3 := Lib.hid BX2
        have zx := BX2.lt
        clear hs2 hg2 BX2 d0 d1 d2 d3 d4 d5' c00 c01 c02 c2'
        obtain ⟨e0, e1, e2, e3, e4, e5, e6, e7⟩ := HE2.out
        have z0' := e0.lt; have z1' := e1.lt; have z5' := e5.lt
        have d1 := e1.cell 0
        have d5 : w2.cell? ⟨b0 + 5, 0, none⟩ = some (takeV b0) := e5.cell 0
        unfold takeV at d5
        have hBs2 : B ≤ w2.heap.size := by omega
        obtain ⟨p9, o9, hA9, hB9, c9⟩ := (e7.more hBs2).i64 (k := x.a.toNat) (by omega)
        obtain ⟨rfl, rfl⟩ : p2 = p9 ∧ o2 = o9 := by injection hA9 with hA9; injection hA9 with h1 h2; exact ⟨h1, h2⟩
        have hx1 := Lib.hid (IH.out x.b.toNat (by omega) (a + ls.getD x.a.toNat 0) ((pcs ls rs i j (x.a.toNat + 1) x.a.toNat a).foldl step s) w2.drew (by omega) (by omega) (by omega) (HE2.out.next (by omega) (Below.refl _ _).drew) (HI.out _ _ _ HS2.out (Below.refl _ _).drew))
        rw [show ((x.b.toNat : Nat) : Int) = x.b by omega] at hx1
        have ef := Lib.hid (show (pcs ls rs i j (r + 1) r a).foldl step s = (pcs ls rs i j (x.b.toNat + 1) x.b.toNat (a + ls.getD x.a.toNat 0)).foldl step ((pcs ls rs i j (x.a.toNat + 1) x.a.toNat a).foldl step s) by
          rw [e.out, List.foldl_append, pcs_fuel HL.out (f := r) (g := x.a.toNat + 1) (by omega) (by omega), pcs_fuel HL.out (f := r) (g := x.b.toNat + 1) (by omega) (by omega)])
        generalize hy : ls.getD x.a.toNat 0 = y at *
        have u2 : IntKind.i64.wrap (a + y) = a + y := IntWalk.i64_in _ (by omega)
        have i5 : x.a < (n : Int) := by omega
        have D1 := Lib.hid d1; have D5 := Lib.hid d5; have C9 := Lib.hid c9
        have Hn4 := Lib.hid (show some p2 ≠ some ob from by
          obtain ⟨p9, o9, hA9, hB9', _⟩ := e7.i64 (k := x.a.toNat) (by omega)
          injection hA9 with hA9; injection hA9 with h1 h2
          intro e; injection e with e; omega)
        clear d1 d5 c9
        clear e0 e1 e2 e3 e4 e5 e6 e7 hA9 hx0 h1 h2 lp lb2 lb3 u1 hy hlr lb0 lb1 ha2 h4
        try clear h5
        clear IH HW HI HE HS HL BX e
        go_wp2_with fail
        have d1 := D1.out; have d5 := D5.out; have c9 := C9.out
        obtain ⟨x0, x1, x2⟩ := BX3.out.three
        have n1 : some w.heap.size ≠ some ob := by intro e; injection e with e; omega
        have n2 : some (b0 + 1) ≠ some ob := by intro e; injection e with e; omega
        have n3 : some (b0 + 5) ≠ some ob := by intro e; injection e with e; omega
        have n4 : some p2 ≠ some ob := Hn4.out
        go_region_held3 (fun w' => w'.cell? ⟨w.heap.size, 1, none⟩ = some (.int .i64 x.a) ∧ w'.cell? ⟨w.heap.size, 2, none⟩ = some (.int .i64 x.b) ∧ w'.cell? ⟨b0 + 1, 0, none⟩ = some (.slice (some ⟨p2, o2, none⟩) n c2) ∧
            w'.cell? ⟨b0 + 5, 0, none⟩ = some (.func (.func 66) #[] #[.pointer (some ⟨b0 + 1, 0, none⟩), .pointer (some ⟨b0 + 2, 0, none⟩), .pointer (some ⟨b0 + 3, 0, none⟩), .pointer (some ⟨b0 + 4, 0, none⟩), .pointer (some ⟨b0, 0, none⟩), .pointer (some ⟨b0 + 5, 0, none⟩)]) ∧
            w'.cell? ⟨p2, o2 + x.a.toNat, none⟩ = some (.int .i64 y))
          (first | exact ⟨s0, s1, s2, s3, s4⟩ | exact ⟨x1, x2, d1, d5, c9⟩ | go_keep)
          (first
            | (go_at_call 66
               refine hx1.out.mono ?_
               rintro e9 w3 ⟨rfl, hg3, hs3⟩
               have G3 := Lib.hid (gb_trans G2.out (gb_trans (gb_below (Below.refl w2.heap.size w2).drew (r := some ob)) hg3))
               have s0 : w3.cell? ⟨w.heap.size, 1, none⟩ = some (.int .i64 x.a) := (hg3.cell_far ⟨w.heap.size, 1, none⟩ zx n1).trans x1
               have s1 : w3.cell? ⟨w.heap.size, 2, none⟩ = some (.int .i64 x.b) := (hg3.cell_far ⟨w.heap.size, 2, none⟩ zx n1).trans x2
               have s2 : w3.cell? ⟨b0 + 1, 0, none⟩ = some (.slice (some ⟨p2, o2, none⟩) n c2) := (hg3.cell_far ⟨b0 + 1, 0, none⟩ z1' n2).trans d1
               have s3 := (hg3.cell_far ⟨b0 + 5, 0, none⟩ z5' n3).trans d5
               have s4 : w3.cell? ⟨p2, o2 + x.a.toNat, none⟩ = some (.int .i64 y) := (hg3.cell_far ⟨p2, o2 + x.a.toNat, none⟩ hB9 n4).trans c9
               have HS3 := Lib.hid hs3
               clear hg3 hs3)
            | fail)
        go_wp2_with fail
        go_end0
        exact ⟨rfl, G3.out, by rw [ef.out]; exact HS3.out⟩
/-- the rules that are met, from the last one on -/
def pcsT (ls : List Int) (rs : List Fac) (i j : Int) : List Nat := if 0 < rs.length ∧ i < j then pcs ls rs i j rs.length (rs.length - 1) 0 else []
set_option maxHeartbeats 1000000 in
set_option maxRecDepth 100000 in
theorem pieces_any (s : S) (w : World) (hw : w.heap.size = b0) (hA : Rd w B A n 3 Fac.cells rs) (hA2 : Rd w B A2 n 1 intE ls) (hS : Inv s w) :
    Calls Tryd.prog 46 #[.agg #[.slice A n c], .slice A2 n c2, .int .i64 i, .int .i64 j, .func (.func fp) #[] cp] w
      (fun e w' => e = .returned (.tuple #[]) ∧ w.grownBy w' (some ob) ∧ Inv ((pcsT ls rs i j).foldl step s) w') := by
  have HW := Lib.hid hW
  have HI := Lib.hid hI
  have HS := Lib.hid hS
  have HL := Lib.hid hls
  have hl := Lib.hid hA.len
  have HA := Lib.hid hA
  have HA2 := Lib.hid hA2
  subst hw
  clear hW hI hS hA hA2 hls
  have et := enterOk Tryd.func66 (by kernel_rfl) (by kernel_rfl)
  unfold EnterOk at et
  by_cases h0 : n = 0
  · have e := Lib.hid (show pcsT ls rs i j = [] by unfold pcsT; rw [if_neg (by rw [hl.out]; omega)])
    subst h0
    go_enter Tryd.func46, Tryd.ntmps46
    go_wp2_with fail
    go_end0
    rw [e.out]
    refine ⟨rfl, gb_below (by (repeat first | exact Below.refl _ _ | assumption | refine Below.drew ?_ | refine Below.alloc ?_ (by first | exact Nat.le_refl _ | (simp; done) | omega | (simp; omega)) _ | refine Below.setCell ?_ (by first | exact Nat.le_refl _ | (simp; done) | omega | (simp; omega)) _)), HI.out _ _ _ HS.out (by (repeat first | exact Below.refl _ _ | assumption | refine Below.drew ?_ | refine Below.alloc ?_ (by first | exact Nat.le_refl _ | (simp; done) | omega | (simp; omega)) _ | refine Below.setCell ?_ (by first | exact Nat.le_refl _ | (simp; done) | omega | (simp; omega)) _))⟩
  by_cases hij : i < j
  · have e := Lib.hid (show pcsT ls rs i j = pcs ls rs i j (n - 1 + 1) (n - 1) 0 by unfold pcsT; rw [if_pos (by rw [hl.out]; omega), hl.out, show n - 1 + 1 = n by omega])
    have h1 : 0 < n := by omega
    have u0 : IntKind.i64.wrap ((n : Int) - 1) = (n : Int) - 1 := IntWalk.i64_in _ (by omega)
    have hlb := lens_bound HL.out (i := n - 1) (by rw [hl.out]; omega)
    go_enter Tryd.func46, Tryd.ntmps46
    go_wp2_with fail
    refine namedC fun w1 H1 => ?_
    have hb1 : Below w.heap.size w w1 := by rw [H1.out]; (repeat first | exact Below.refl _ _ | assumption | refine Below.drew ?_ | refine Below.alloc ?_ (by first | exact Nat.le_refl _ | (simp; done) | omega | (simp; omega)) _ | refine Below.setCell ?_ (by first | exact Nat.le_refl _ | (simp; done) | omega | (simp; omega)) _)
    have hE : PEnv B w.heap.size A n c rs A2 c2 ls i j fp cp w1 := by
      refine ⟨?_, ?_, ?_, ?_, ?_, ?_, (HA.out.next' (by omega) hb1), (HA2.out.next' (by omega) hb1)⟩
      · rw [H1.out]; exact (((((Blk.new w _ _).alloc _).alloc _).alloc _).alloc _).alloc _
      · rw [H1.out]; simpa using ((((Blk.new (w.alloc _) _ _).alloc _).alloc _).alloc _).alloc _
      · rw [H1.out]; simpa using (((Blk.new ((w.alloc _).alloc _) _ _).alloc _).alloc _).alloc _
      · rw [H1.out]; simpa using ((Blk.new (((w.alloc _).alloc _).alloc _) _ _).alloc _).alloc _
      · rw [H1.out]; simpa using (Blk.new ((((w.alloc _).alloc _).alloc _).alloc _) _ _).alloc _
      · rw [H1.out]; simpa [takeV] using Blk.new (((((w.alloc _).alloc _).alloc _).alloc _).alloc _) _ _
    have hE' := Lib.hid hE
    clear hE H1
    have ht := take_any Inv step HI.out B ob w.heap.size hBo hob A n c rs A2 c2 ls i j fp ep cp HL.out HW.out (n - 1) 0 s w1 (by omega) (by omega) (by omega) hE'.out (HI.out _ _ _ HS.out hb1)
    rw [show ((n - 1 : Nat) : Int) = (n : Int) - 1 by omega] at ht
    refine (by simpa [Nat.add_assoc] using ht : Calls _ _ _ _ _).mono ?_
    rintro e1 w2 ⟨rfl, hg2, hs2⟩
    have G2 := Lib.hid (gb_trans (gb_below hb1 (r := some ob)) hg2)
    have HS2 := Lib.hid hs2
    clear hg2 hs2 ht
    go_wp2_with fail
    go_end0
    exact ⟨rfl, G2.out, by rw [e.out]; exact HS2.out⟩
  · have e := Lib.hid (show pcsT ls rs i j = [] by unfold pcsT; rw [if_neg (by omega)])
    have h1 : 0 < n := by omega
    go_enter Tryd.func46, Tryd.ntmps46
    go_wp2_with fail
    go_end0
    rw [e.out]
    refine ⟨rfl, gb_below (by (repeat first | exact Below.refl _ _ | assumption | refine Below.drew ?_ | refine Below.alloc ?_ (by first | exact Nat.le_refl _ | (simp; done) | omega | (simp; omega)) _ | refine Below.setCell ?_ (by first | exact Nat.le_refl _ | (simp; done) | omega | (simp; omega)) _)), HI.out _ _ _ HS.out (by (repeat first | exact Below.refl _ _ | assumption | refine Below.drew ?_ | refine Below.alloc ?_ (by first | exact Nat.le_refl _ | (simp; done) | omega | (simp; omega)) _ | refine Below.setCell ?_ (by first | exact Nat.le_refl _ | (simp; done) | omega | (simp; omega)) _))⟩
end
end Go.Proofs.YtnhkoinjjbfofaaDoor


/-
  The rules that are met, where what is called for each writes into a builder: its box and its bytes change, and nothing else.
-/
namespace Go.Proofs.YtnhkoinjjbfofaaDoor
open Go.RowKit

/-- what lies below B stays, and all that is neither the block ob nor a row of T -/
structure KB (B : Nat) (T : TypeId) (ob : Nat) (w w' : World) : Prop where
  b : Below B w w'
  k : Lib.OthersKept T (some ob) w w'
section
variable {B : Nat} {T : TypeId} {ob : Nat} {w w1 w' : World}
theorem KB.refl (B : Nat) (T : TypeId) (ob : Nat) (w : World) : KB B T ob w w := ⟨Below.refl _ _, Lib.OthersKept.refl _ _ _⟩
theorem KB.below (hb : Below w.heap.size w w') (hB : B ≤ w.heap.size) : KB B T ob w w' :=
  ⟨hb.mono hB, fun k o hk _ _ => (hb.block k (Array.getElem?_eq_some_iff.1 hk).1).trans hk⟩
theorem KB.trans (h1 : KB B T ob w w1) (h2 : KB B T ob w1 w') : KB B T ob w w' := ⟨h1.b.trans h2.b, h1.k.trans h2.k⟩
theorem Blk.kb {g : Nat} {t : TypeId} {cs : Array Value} (h : Blk w g t cs) (hk : KB B T ob w w') (ht : t ≠ T) (hg : g ≠ ob) : Blk w' g t cs :=
  hk.k g _ h (by intro e; injection e with e; exact hg e) (fun c fz e => by injection e with _ e; exact ht e)
end
theorem PEnv.kb {B ob b0 : Nat} {A : Option Addr} {n c : Nat} {rs : List Fac} {A2 : Option Addr} {c2 : Nat} {ls : List Int} {i j : Int} {fp : Nat} {cp : Array Value} {w w' : World} (h : PEnv B b0 A n c rs A2 c2 ls i j fp cp w) (ho : ob < b0) (hb : KB B 5 ob w w') : PEnv B b0 A n c rs A2 c2 ls i j fp cp w' := by
  obtain ⟨h0, h1, h2, h3, h4, h5, h6, h7⟩ := h
  exact ⟨h0.kb hb (by decide) (by omega), h1.kb hb (by decide) (by omega), h2.kb hb (by decide) (by omega), h3.kb hb (by decide) (by omega), h4.kb hb (by decide) (by omega), h5.kb hb (by decide) (by omega), h6.below hb.b, h7.below hb.b⟩
section
variable (Inv : List Nat → World → Prop) (hI : ∀ s w w', Inv s w → Below w.heap.size w w' → Inv s w') (B ob b0 : Nat) (hBo : B ≤ ob) (hob : ob < b0) (A : Option Addr) (n c : Nat) (rs : List Fac) (A2 : Option Addr) (c2 : Nat) (ls : List Int) (i j : Int)
  (fp : Nat) (ep : EnterOk fp) (cp : Array Value) (hn : n ≤ 1048576) (hls : gLens rs [] = some ls)
  (hW : ∀ (s : List Nat) (k : Nat) (w : World), k < n → Inv (k :: s) w → Calls Tryd.prog fp (#[.int .i64 (k : Int)] ++ cp) w (fun e w' => e = .returned (.tuple #[]) ∧ KB B 5 ob w w' ∧ Inv s w'))
include hI hBo hob ep hn hls hW
omit hn in
set_option maxHeartbeats 1000000 in
set_option maxRecDepth 100000 in
theorem takeK_any : ∀ (r : Nat) (a : Int) (s : List Nat) (w : World), r < n → 0 ≤ a → a + ls.getD r 0 ≤ 1000000000000000 → PEnv B b0 A n c rs A2 c2 ls i j fp cp w → Inv (pcs ls rs i j (r + 1) r a ++ s) w →
    Calls Tryd.prog 66 #[.int .i64 (r : Int), .int .i64 a, .pointer (some ⟨b0 + 1, 0, none⟩), .pointer (some ⟨b0 + 2, 0, none⟩), .pointer (some ⟨b0 + 3, 0, none⟩), .pointer (some ⟨b0 + 4, 0, none⟩), .pointer (some ⟨b0, 0, none⟩), .pointer (some ⟨b0 + 5, 0, none⟩)] w
      (fun e w' => e = .returned (.tuple #[]) ∧ KB B 5 ob w w' ∧ Inv s w') := by
  intro r
  induction r using Nat.strongRecOn with
  | ind r ih =>
    intro a s w hr ha ha2 hE hS
    have IH := Lib.hid ih; clear ih
    have HW := Lib.hid hW
    have HI := Lib.hid hI
    have HE := Lib.hid hE
    have HS := Lib.hid hS
    have HL := Lib.hid hls
    obtain ⟨e0, e1, e2, e3, e4, e5, e6, e7⟩ := hE
    have hl := Lib.hid e6.len
    have z0 := e0.lt; have z1 := e1.lt; have z2 := e2.lt; have z3 := e3.lt; have z4 := e4.lt; have z5 := e5.lt
    have d0 := e0.cell 0; have d1 := e1.cell 0; have d2 := e2.cell 0; have d3 := e3.cell 0; have d4 := e4.cell 0; have d5 := e5.cell 0
    have hBs : B ≤ w.heap.size := by omega
    have d5' : w.cell? ⟨b0 + 5, 0, none⟩ = some (takeV b0) := d5
    clear d5
    unfold takeV at d5'
    obtain ⟨p2, o2, rfl, hB2, c2'⟩ := (e7.more hBs).i64 (k := r) hr
    obtain ⟨b, o, x, rfl, hB1, gx, c00, c01, c02⟩ := (e6.more hBs).fac hr
    have lb := lens_bound HL.out (i := r) (by rw [hl.out]; exact hr)
    have Gx := Lib.hid gx
    clear hS e0 e1 e2 e3 e4 e5 e6 e7 hW hI gx
    have et := enterOk Tryd.func66 (by kernel_rfl) (by kernel_rfl)
    unfold EnterOk at et
    have ep' := ep
    unfold EnterOk at ep'
    generalize hlr : ls.getD r 0 = lr at *
    obtain ⟨lb0, lb1⟩ := lb
    have u1 : IntKind.i64.wrap (a + lr) = a + lr := IntWalk.i64_in _ (by omega)
    have i1 : (0 : Int) ≤ (r : Int) := by omega
    have i2 : (r : Int) < n := by omega
    by_cases h1 : a + lr ≤ i
    · have e := Lib.hid (show pcs ls rs i j (r + 1) r a = [] from pcs_out1 (by rw [hlr]; exact h1))
      go_enter Tryd.func66, Tryd.ntmps66
      go_wp2_with fail
      refine bodyPost_ret (results_none rfl _ _ _) rfl ?_
      exact ⟨rfl, KB.refl _ _ _ _, by have h := HS.out; rw [e.out] at h; exact h⟩
    by_cases h2 : j ≤ a
    · have e := Lib.hid (show pcs ls rs i j (r + 1) r a = [] from pcs_out2 h2)
      go_enter Tryd.func66, Tryd.ntmps66
      go_wp2_with fail
      refine bodyPost_ret (results_none rfl _ _ _) rfl ?_
      exact ⟨rfl, KB.refl _ _ _ _, by have h := HS.out; rw [e.out] at h; exact h⟩
    by_cases h3 : i ≤ a ∧ a + lr ≤ j
    · have e := Lib.hid (show pcs ls rs i j (r + 1) r a = [r] from pcs_in (by omega) (by rw [hlr]; exact h1) h2 h3.1 (by rw [hlr]; exact h3.2))
      obtain ⟨h30, h31⟩ := h3
      go_enter Tryd.func66, Tryd.ntmps66
      go_wp2_with fail
      refine (HW.out s r w hr (by have h := HS.out; rw [e.out] at h; exact h)).mono ?_
      rintro e1 w1 ⟨rfl, hg1, hs1⟩
      go_wp2_with fail
      refine bodyPost_ret (results_none rfl _ _ _) rfl ?_
      exact ⟨rfl, hg1, hs1⟩
    · have e := Lib.hid (show pcs ls rs i j (r + 1) r a = _ from pcs_go (by omega) (by rw [hlr]; exact h1) h2 (by rw [hlr]; exact h3) Gx.out)
      rw [Nat.add_sub_cancel] at e
      rcases wf_of HL.out r x Gx.out with ⟨h0, ha0, ha1, hb0', hb1'⟩ | ⟨cc, _, hxl, _⟩
      case inr =>
        exfalso
        have h0 : x.l.size ≠ 0 := by rw [hxl]; show (1 : Nat) ≠ 0; omega
        have := lens_let HL.out Gx.out h0
        apply h3
        omega
      have HS0 := HS.out
      rw [e.out, List.append_assoc, pcs_fuel HL.out (f := r) (g := x.a.toNat + 1) (by omega) (by omega), pcs_fuel HL.out (f := r) (g := x.b.toNat + 1) (by omega) (by omega)] at HS0
      have HS := Lib.hid HS0
      clear HS0
      have lp := lens_pair HL.out Gx.out h0
      have lb2 := lens_bound HL.out (i := x.a.toNat) (by rw [hl.out]; omega)
      have lb3 := lens_bound HL.out (i := x.b.toNat) (by rw [hl.out]; omega)
      have hnot : i ≤ a → ¬ (a + lr ≤ j) := fun h4 h5 => h3 ⟨h4, h5⟩
      by_cases h4 : i ≤ a
      all_goals
        try have h5 := hnot h4
        clear hnot h3
        go_enter Tryd.func66, Tryd.ntmps66
        go_wp2_with fail
        refine namedC fun w1 H1 => ?_
        have hb1 : Below w.heap.size w w1 := by rw [H1.out]; (repeat first | exact Below.refl _ _ | assumption | refine Below.drew ?_ | refine Below.alloc ?_ (by first | exact Nat.le_refl _ | (simp; done) | omega | (simp; omega)) _ | refine Below.setCell ?_ (by first | exact Nat.le_refl _ | (simp; done) | omega | (simp; omega)) _)
        have BX := Lib.hid (show Blk w1 w.heap.size 48 #[.string x.l, .int .i64 x.a, .int .i64 x.b] by rw [H1.out]; exact Blk.new _ _ _)
        clear H1
        have hx0 := Lib.hid (IH.out x.a.toNat (by omega) a (pcs ls rs i j (x.b.toNat + 1) x.b.toNat (a + ls.getD x.a.toNat 0) ++ s) w1 (by omega) ha (by omega) (HE.out.next (by omega) hb1) (HI.out _ w w1 HS.out hb1))
        rw [show ((x.a.toNat : Nat) : Int) = x.a by omega] at hx0
        refine hx0.out.mono ?_
        rintro e1 w2 ⟨rfl, hg2, hs2⟩
        have G2 := Lib.hid (KB.trans (KB.below hb1 (by omega)) hg2)
        have HS2 := Lib.hid hs2
        have HE2 := Lib.hid ((HE.out.next (by omega) hb1).kb hob hg2)
        have BX2 := BX.out.kb hg2 (by decide) (by omega)
        have BX3 := Lib.hid BX2
        have zx := BX2.lt
        clear hs2 hg2 BX2 d0 d1 d2 d3 d4 d5' c00 c01 c02 c2'
        obtain ⟨e0, e1, e2, e3, e4, e5, e6, e7⟩ := HE2.out
        have z0' := e0.lt; have z1' := e1.lt; have z5' := e5.lt
        have d1 := e1.cell 0
        have d5 : w2.cell? ⟨b0 + 5, 0, none⟩ = some (takeV b0) := e5.cell 0
        unfold takeV at d5
        have hBs2 : B ≤ w2.heap.size := by omega
        obtain ⟨p9, o9, hA9, hB9, c9⟩ := (e7.more hBs2).i64 (k := x.a.toNat) (by omega)
        obtain ⟨rfl, rfl⟩ : p2 = p9 ∧ o2 = o9 := by injection hA9 with hA9; injection hA9 with h1 h2; exact ⟨h1, h2⟩
        have hx1 := Lib.hid (IH.out x.b.toNat (by omega) (a + ls.getD x.a.toNat 0) s w2.drew (by omega) (by omega) (by omega) (HE2.out.next (by omega) (Below.refl _ _).drew) (HI.out _ _ _ HS2.out (Below.refl _ _).drew))
        rw [show ((x.b.toNat : Nat) : Int) = x.b by omega] at hx1
        generalize hy : ls.getD x.a.toNat 0 = y at *
        have u2 : IntKind.i64.wrap (a + y) = a + y := IntWalk.i64_in _ (by omega)
        have i5 : x.a < (n : Int) := by omega
        have D1 := Lib.hid d1; have D5 := Lib.hid d5; have C9 := Lib.hid c9
        have hB9b := Lib.hid (show p2 < B from by
          obtain ⟨p9, o9, hA9, hB9', _⟩ := e7.i64 (k := x.a.toNat) (by omega)
          injection hA9 with hA9; injection hA9 with h1 h2
          omega)
        have E1 := Lib.hid e1.drew; have E5 := Lib.hid e5.drew; have BX4 := Lib.hid BX3.out.drew
        clear d1 d5 c9
        clear e0 e1 e2 e3 e4 e5 e6 e7 hA9 hx0 h1 h2 lp lb2 lb3 u1 hy hlr lb0 lb1 ha2 h4
        try clear h5
        clear IH HW HI HE HS HL BX e
        go_wp2_with fail
        have d1 := D1.out; have d5 := D5.out; have c9 := C9.out
        obtain ⟨x0, x1, x2⟩ := BX3.out.three
        go_region_held3 (fun w' => w'.cell? ⟨w.heap.size, 1, none⟩ = some (.int .i64 x.a) ∧ w'.cell? ⟨w.heap.size, 2, none⟩ = some (.int .i64 x.b) ∧ w'.cell? ⟨b0 + 1, 0, none⟩ = some (.slice (some ⟨p2, o2, none⟩) n c2) ∧
            w'.cell? ⟨b0 + 5, 0, none⟩ = some (.func (.func 66) #[] #[.pointer (some ⟨b0 + 1, 0, none⟩), .pointer (some ⟨b0 + 2, 0, none⟩), .pointer (some ⟨b0 + 3, 0, none⟩), .pointer (some ⟨b0 + 4, 0, none⟩), .pointer (some ⟨b0, 0, none⟩), .pointer (some ⟨b0 + 5, 0, none⟩)]) ∧
            w'.cell? ⟨p2, o2 + x.a.toNat, none⟩ = some (.int .i64 y))
          (first | exact ⟨s0, s1, s2, s3, s4⟩ | exact ⟨x1, x2, d1, d5, c9⟩ | go_keep)
          (first
            | (go_at_call 66
               refine hx1.out.mono ?_
               rintro e9 w3 ⟨rfl, hg3, hs3⟩
               have G3 := Lib.hid (KB.trans G2.out (KB.trans (KB.below (Below.refl w2.heap.size w2).drew hBs2) hg3))
               have s0 : w3.cell? ⟨w.heap.size, 1, none⟩ = some (.int .i64 x.a) := ((BX4.out.kb hg3 (by decide) (by omega)).cell 1)
               have s1 : w3.cell? ⟨w.heap.size, 2, none⟩ = some (.int .i64 x.b) := ((BX4.out.kb hg3 (by decide) (by omega)).cell 2)
               have s2 : w3.cell? ⟨b0 + 1, 0, none⟩ = some (.slice (some ⟨p2, o2, none⟩) n c2) := ((E1.out.kb hg3 (by decide) (by omega)).cell 0)
               have s3 : w3.cell? ⟨b0 + 5, 0, none⟩ = some (.func (.func 66) #[] #[.pointer (some ⟨b0 + 1, 0, none⟩), .pointer (some ⟨b0 + 2, 0, none⟩), .pointer (some ⟨b0 + 3, 0, none⟩), .pointer (some ⟨b0 + 4, 0, none⟩), .pointer (some ⟨b0, 0, none⟩), .pointer (some ⟨b0 + 5, 0, none⟩)]) := ((E5.out.kb hg3 (by decide) (by omega)).cell 0)
               have s4 : w3.cell? ⟨p2, o2 + x.a.toNat, none⟩ = some (.int .i64 y) := (hg3.b.cell (p := ⟨p2, o2 + x.a.toNat, none⟩) hB9b.out).trans c9
               have HS3 := Lib.hid hs3
               clear hg3 hs3)
            | fail)
        go_wp2_with fail
        go_end0
        exact ⟨rfl, G3.out, HS3.out⟩
set_option maxHeartbeats 1000000 in
set_option maxRecDepth 100000 in
theorem piecesK_any (s : List Nat) (w : World) (hw : w.heap.size = b0) (hA : Rd w B A n 3 Fac.cells rs) (hA2 : Rd w B A2 n 1 intE ls) (hS : Inv (pcsT ls rs i j ++ s) w) :
    Calls Tryd.prog 46 #[.agg #[.slice A n c], .slice A2 n c2, .int .i64 i, .int .i64 j, .func (.func fp) #[] cp] w
      (fun e w' => e = .returned (.tuple #[]) ∧ KB B 5 ob w w' ∧ Inv s w') := by
  have HW := Lib.hid hW
  have HI := Lib.hid hI
  have HS := Lib.hid hS
  have HL := Lib.hid hls
  have hl := Lib.hid hA.len
  have HA := Lib.hid hA
  have HA2 := Lib.hid hA2
  subst hw
  clear hW hI hS hA hA2 hls
  have et := enterOk Tryd.func66 (by kernel_rfl) (by kernel_rfl)
  unfold EnterOk at et
  by_cases h0 : n = 0
  · have e := Lib.hid (show pcsT ls rs i j = [] by unfold pcsT; rw [if_neg (by rw [hl.out]; omega)])
    subst h0
    go_enter Tryd.func46, Tryd.ntmps46
    go_wp2_with fail
    go_end0
    have h := HS.out
    rw [e.out] at h
    refine ⟨rfl, KB.below (by (repeat first | exact Below.refl _ _ | assumption | refine Below.drew ?_ | refine Below.alloc ?_ (by first | exact Nat.le_refl _ | (simp; done) | omega | (simp; omega)) _ | refine Below.setCell ?_ (by first | exact Nat.le_refl _ | (simp; done) | omega | (simp; omega)) _)) (by omega), HI.out _ _ _ h (by (repeat first | exact Below.refl _ _ | assumption | refine Below.drew ?_ | refine Below.alloc ?_ (by first | exact Nat.le_refl _ | (simp; done) | omega | (simp; omega)) _ | refine Below.setCell ?_ (by first | exact Nat.le_refl _ | (simp; done) | omega | (simp; omega)) _))⟩
  by_cases hij : i < j
  · have e := Lib.hid (show pcsT ls rs i j = pcs ls rs i j (n - 1 + 1) (n - 1) 0 by unfold pcsT; rw [if_pos (by rw [hl.out]; omega), hl.out, show n - 1 + 1 = n by omega])
    have h1 : 0 < n := by omega
    have u0 : IntKind.i64.wrap ((n : Int) - 1) = (n : Int) - 1 := IntWalk.i64_in _ (by omega)
    have hlb := lens_bound HL.out (i := n - 1) (by rw [hl.out]; omega)
    go_enter Tryd.func46, Tryd.ntmps46
    go_wp2_with fail
    refine namedC fun w1 H1 => ?_
    have hb1 : Below w.heap.size w w1 := by rw [H1.out]; (repeat first | exact Below.refl _ _ | assumption | refine Below.drew ?_ | refine Below.alloc ?_ (by first | exact Nat.le_refl _ | (simp; done) | omega | (simp; omega)) _ | refine Below.setCell ?_ (by first | exact Nat.le_refl _ | (simp; done) | omega | (simp; omega)) _)
    have hE : PEnv B w.heap.size A n c rs A2 c2 ls i j fp cp w1 := by
      refine ⟨?_, ?_, ?_, ?_, ?_, ?_, (HA.out.next' (by omega) hb1), (HA2.out.next' (by omega) hb1)⟩
      · rw [H1.out]; exact (((((Blk.new w _ _).alloc _).alloc _).alloc _).alloc _).alloc _
      · rw [H1.out]; simpa using ((((Blk.new (w.alloc _) _ _).alloc _).alloc _).alloc _).alloc _
      · rw [H1.out]; simpa using (((Blk.new ((w.alloc _).alloc _) _ _).alloc _).alloc _).alloc _
      · rw [H1.out]; simpa using ((Blk.new (((w.alloc _).alloc _).alloc _) _ _).alloc _).alloc _
      · rw [H1.out]; simpa using (Blk.new ((((w.alloc _).alloc _).alloc _).alloc _) _ _).alloc _
      · rw [H1.out]; simpa [takeV] using Blk.new (((((w.alloc _).alloc _).alloc _).alloc _).alloc _) _ _
    have hE' := Lib.hid hE
    clear hE H1
    have HS1 := HS.out
    rw [e.out] at HS1
    have ht := takeK_any Inv HI.out B ob w.heap.size hBo hob A n c rs A2 c2 ls i j fp ep cp HL.out HW.out (n - 1) 0 s w1 (by omega) (by omega) (by omega) hE'.out (HI.out _ _ _ HS1 hb1)
    rw [show ((n - 1 : Nat) : Int) = (n : Int) - 1 by omega] at ht
    refine (by simpa [Nat.add_assoc] using ht : Calls _ _ _ _ _).mono ?_
    rintro e1 w2 ⟨rfl, hg2, hs2⟩
    have G2 := Lib.hid (KB.trans (KB.below hb1 (by omega)) hg2)
    have HS2 := Lib.hid hs2
    clear hg2 hs2 ht
    go_wp2_with fail
    go_end0
    exact ⟨rfl, G2.out, HS2.out⟩
  · have e := Lib.hid (show pcsT ls rs i j = [] by unfold pcsT; rw [if_neg (by omega)])
    have h1 : 0 < n := by omega
    go_enter Tryd.func46, Tryd.ntmps46
    go_wp2_with fail
    go_end0
    have h := HS.out
    rw [e.out] at h
    refine ⟨rfl, KB.below (by (repeat first | exact Below.refl _ _ | assumption | refine Below.drew ?_ | refine Below.alloc ?_ (by first | exact Nat.le_refl _ | (simp; done) | omega | (simp; omega)) _ | refine Below.setCell ?_ (by first | exact Nat.le_refl _ | (simp; done) | omega | (simp; omega)) _)) (by omega), HI.out _ _ _ h (by (repeat first | exact Below.refl _ _ | assumption | refine Below.drew ?_ | refine Below.alloc ?_ (by first | exact Nat.le_refl _ | (simp; done) | omega | (simp; omega)) _ | refine Below.setCell ?_ (by first | exact Nat.le_refl _ | (simp; done) | omega | (simp; omega)) _))⟩
end
end Go.Proofs.YtnhkoinjjbfofaaDoor


/-
  strings.Builder, written many times: its box and its bytes change, and nothing else.
-/
namespace Go.Proofs.YtnhkoinjjbfofaaDoor
open Go.RowKit

theorem bldK_size : (Tryd.prog.info? 46).map (·.size) = some 2 := by kernel_rfl
theorem bldK_lies : liesAt Tryd.prog Tryd.prog.depth 46 (2 / Tryd.prog.cellsOf 46) 0 46 1 = true := by kernel_rfl
theorem info_u8K : (Tryd.prog.info? 5).map (fun i => (i.zero, i.size, i.bytes)) = some (some (.int .u8 0), 1, 1) := by kernel_rfl
/-- a builder that holds bytes, its box b and its bytes above B -/
def Bld (B b : Nat) (l : List UInt8) (w : World) : Prop := Lib.IsBuilder 46 5 B b (Lib.byteCells l) w
theorem Bld.lt {B b : Nat} {l : List UInt8} {w : World} (h : Bld B b l w) : b < w.heap.size := by rcases h with h | h <;> exact h.lt
theorem Bld.ge {B b : Nat} {l : List UInt8} {w : World} (h : Bld B b l w) : B ≤ b := by rcases h with h | h <;> exact h.1
theorem Bld.next {B b : Nat} {l : List UInt8} {w w' : World} (h : Bld B b l w) (hb : Below w.heap.size w w') : Bld B b l w' := by
  have one : ∀ {p : Value}, Lib.BuilderAt 46 5 B b p (Lib.byteCells l) w → Lib.BuilderAt 46 5 B b p (Lib.byteCells l) w' := fun h => by
    have hl := h.lt
    obtain ⟨hB, v, hbk, hown, hne⟩ := h
    exact ⟨hB, v, (hb.block b hl).trans hbk, own_next hown hb, hne⟩
  exact h.imp one one
theorem Bld.fresh {B b : Nat} {w : World} (hB : B ≤ b) (h : Blk w b 46 #[.pointer none, .slice none 0 0]) : Bld B b [] w :=
  .inl ⟨hB, .slice none 0 0, h, World.ownsRow_nil _ _ _ _, by simp [Value.ownBlock]⟩
set_option maxHeartbeats 1000000 in
set_option maxRecDepth 100000 in
theorem bCheckF_any (b : Nat) (v : Value) (w : World) (hB : Blk w b 46 #[.pointer none, v]) :
    Calls Tryd.prog 38 #[.pointer (some ⟨b, 0, none⟩)] w fun e w' => e = .returned (.tuple #[]) ∧ w' = w.setCell ⟨b, 0, none⟩ (.pointer (some ⟨b, 0, none⟩)) := by
  obtain ⟨j, hj, hjs⟩ := Option.map_eq_some_iff.1 bldK_size
  have h0 : w.cell? ⟨b, 0, none⟩ = some (.pointer none) := hB.cell 0
  have hsh : w.shape? b = some (46, 2) := by unfold Blk at hB; simp [World.shape?, hB]
  have hfz := hB.frozen 0
  have hl := hB.lt
  go_enter Tryd.func38, Tryd.ntmps38
  go_wp2
  rw [Lib.run_to_unsafe w ⟨b, 0, none⟩ Tryd.underlying44 Tryd.underlying92 hj (by rw [hjs]; decide) hsh (Nat.zero_lt_succ 1)]
  simp only [Result.andThen]
  rw [Oper.upon_value]
  go_wp2
  rw [run_callFunc_extern Tryd.func55 (by kernel_rfl) (by kernel_rfl) (by kernel_rfl) (e := Extern.AbiNoEscape.same) (by kernel_rfl)]
  rw [Lib.run_noEscape]
  simp only [Result.andThen]
  rw [Oper.upon_value]
  go_wp2
  rw [Lib.run_from_unsafe w ⟨b, 0, none⟩ Tryd.underlying92 Tryd.underlying44 hj hsh bldK_lies]
  simp only [Result.andThen]
  rw [Oper.upon_value]
  go_wp2
  go_end0
  exact ⟨rfl, rfl⟩
set_option maxHeartbeats 1000000 in
set_option maxRecDepth 100000 in
theorem bCheckU_any (b : Nat) (v : Value) (w : World) (hB : Blk w b 46 #[.pointer (some ⟨b, 0, none⟩), v]) :
    Calls Tryd.prog 38 #[.pointer (some ⟨b, 0, none⟩)] w fun e w' => e = .returned (.tuple #[]) ∧ w' = w := by
  obtain ⟨j, hj, hjs⟩ := Option.map_eq_some_iff.1 bldK_size
  have h0 : w.cell? ⟨b, 0, none⟩ = some (.pointer (some ⟨b, 0, none⟩)) := hB.cell 0
  have hn := Lib.run_neq_ptr_same (P := Tryd.prog) w (tp := 44) (te := 46) ⟨b, 0, none⟩ Tryd.underlying44 hj
  go_enter Tryd.func38, Tryd.ntmps38
  go_wp2
  go_end0
  exact ⟨rfl, rfl⟩
/-- copyCheck, whatever the builder -/
theorem bCheckK_any (B b : Nat) (l : List UInt8) (w : World) (h : Bld B b l w) :
    Calls Tryd.prog 38 #[.pointer (some ⟨b, 0, none⟩)] w fun e w' => e = .returned (.tuple #[]) ∧ Lib.BuilderAt 46 5 B b (.pointer (some ⟨b, 0, none⟩)) (Lib.byteCells l) w' ∧ KB B 5 b w w' := by
  rcases h with h | h
  · have h' := h
    obtain ⟨hB, v, hbk, _, _⟩ := h'
    refine (bCheckF_any b v w hbk).mono ?_
    rintro e w' ⟨rfl, rfl⟩
    exact ⟨rfl, h.used _, (Below.refl B w).setCell (p := ⟨b, 0, none⟩) hB _, (Lib.OthersKept.refl _ _ w).setCell ⟨b, 0, none⟩ rfl _⟩
  · have h' := h
    obtain ⟨hB, v, hbk, _, _⟩ := h'
    refine (bCheckU_any b v w hbk).mono ?_
    rintro e w' ⟨rfl, rfl⟩
    exact ⟨rfl, h, KB.refl _ _ _ _⟩
set_option maxHeartbeats 2000000 in
set_option maxRecDepth 100000 in
theorem bWriteK_any (B b : Nat) (l : List UInt8) (s : ByteArray) (w : World) (h : Bld B b l w) (hlen : l.length + s.size ≤ 140737488355328) (hBw : B ≤ w.heap.size) :
    Calls Tryd.prog 20 #[.pointer (some ⟨b, 0, none⟩), .string s] w fun e w' => e = .returned (.tuple #[.int .i64 s.size, .nilIface]) ∧ KB B 5 b w w' ∧ Bld B b (l ++ s.data.toList) w' := by
  obtain ⟨i0, hi, hz0, hz1, hz2⟩ := info_parts info_u8K
  have HC := Lib.hid (bCheckK_any B b l w h)
  have hcl : (Lib.byteCells l).length = l.length := Lib.byteCells_length l
  have hap : Lib.byteCells (l ++ s.data.toList) = Lib.byteCells l ++ Lib.strCells s := by simp [Lib.byteCells, Lib.strCells]
  clear h
  go_enter Tryd.func20, Tryd.ntmps20
  go_wp2_with fail
  refine HC.out.mono ?_
  rintro e w1 ⟨rfl, h1, hk1⟩
  have K1 := Lib.hid hk1
  obtain ⟨hB, v, hbk, hown, hne⟩ := h1
  have bk1 := Lib.hid hbk
  have hs1 := hk1.b.size
  have c0 : w1.cell? ⟨b, 0, none⟩ = some (.pointer (some ⟨b, 0, none⟩)) := by rw [Lib.cell_of_heap hbk]; rfl
  have c1 : w1.cell? ⟨b, 1, none⟩ = some v := by rw [Lib.cell_of_heap hbk]; rfl
  have hlt : b < w1.heap.size := (Array.getElem?_eq_some_iff.1 hbk).1
  clear hk1 HC hbk
  go_wp2_with
    (at_builtin
     refine Go.Lib.wpList_append_own_string _ rfl _ _ 22 9 rfl B 5 i0 Tryd.underlying22 Tryd.underlying9 hi hz0 hz1 hz2 v l.length (Lib.byteCells l) rfl (by rw [hcl] at hown; exact hown) s rfl (by unfold maxLen; omega) (by omega) (by omega) ?_
     intro v9 w9 own9 hg9 hat9
     have O9 := Lib.hid own9
     have G9 := Lib.hid hg9
     have hb9 := Lib.hid (show w9.heap[b]? = some (.cells #[.pointer (some ⟨b, 0, none⟩), v] 46 (0, 0)) by rw [hg9.block b hlt (fun e => hne e.symm)]; exact bk1.out)
     have hv : ∃ A c n, v9 = .slice A n c := by
       rcases own9.2 with ⟨hv, h0⟩ | ⟨g, cap, cur, hv, _⟩
       · exact ⟨none, 0, _, hv⟩
       · exact ⟨_, _, _, hv⟩
     obtain ⟨A9, c9, n9, rfl⟩ := hv
     have d0 : w9.cell? ⟨b, 0, none⟩ = some (.pointer (some ⟨b, 0, none⟩)) := by rw [Lib.cell_of_heap hb9.out]; rfl
     have d1 : w9.cell? ⟨b, 1, none⟩ = some v := by rw [Lib.cell_of_heap hb9.out]; rfl
     have f1 : w9.frozen? ⟨b, 1, none⟩ = false := Lib.frozen_of_heap hb9.out 1
     clear own9 hg9 hat9)
  go_ret2
  refine ⟨rfl, ⟨?_, ?_⟩, ?_⟩
  · exact (K1.out.b.grown G9.out (by omega) (fun k hk => (hown.lt k hk).1)).setCell (p := ⟨b, 1, none⟩) hB _
  · refine (K1.out.k.grown G9.out (fun g hg => ?_)).setCell ⟨b, 1, none⟩ rfl _
    rcases hown.2 with ⟨hv, h0⟩ | ⟨g', cap, cur, hv, _, hh, _⟩
    · rw [hv] at hg; cases hg
    · rw [hv] at hg
      have e : g' = g := by simpa [Value.ownBlock] using hg
      subst e
      exact ⟨_, _, hh⟩
  · refine .inr ?_
    rw [hap]
    exact Lib.BuilderAt.put (T := 46) (e := 5) hB hb9.out (bs' := Lib.byteCells l ++ Lib.strCells s) (by simpa [Lib.strCells_length, hcl] using O9.out) (by decide)
end Go.Proofs.YtnhkoinjjbfofaaDoor


/-
  A region that draws its order: quiet operations ahead, in an order of ours, and a tail that waits for all of them.
-/
namespace Go.Proofs.YtnhkoinjjbfofaaDoor
open Go

section
variable {P : Program} {ops : Array Oper} {md : Region.Mode} {C : World → Prop}

/-- what an operation waits for -/
def depsT (md : Region.Mode) (ops : Array Oper) (j : Nat) : List Nat :=
  match ops[j]? with
  | some o => (o.after.toList.filter fun e => Region.binds md e).map (·.on)
  | none => []
def reachT (md : Region.Mode) (ops : Array Oper) : Nat → List Nat → List Nat
  | 0, s => s
  | k + 1, s => reachT md ops k (s ++ (s.flatMap (depsT md ops)).filter fun x => !s.contains x).eraseDups
/-- every operation that is not ahead waits for all that are -/
def waitB (md : Region.Mode) (ops : Array Oper) (hd : List Nat) : Bool :=
  (List.range ops.size).all fun t => hd.contains t || hd.all fun i => (reachT md ops ops.size [t]).contains i
def seqT (md : Region.Mode) (ops : Array Oper) : List Nat → Array Bool → Bool
  | [], listed => (Region.ready md ops listed).isEmpty
  | t :: tl, listed => decide (Region.ready md ops listed = [t]) && seqT md ops tl (listed.setIfInBounds t true)
def headT (md : Region.Mode) (ops : Array Oper) (tl : List Nat) : List Nat → Array Bool → Bool
  | [], listed => seqT md ops tl listed
  | i :: hd, listed => (Region.ready md ops listed).contains i && Region.free md ops listed i && headT md ops tl hd (listed.setIfInBounds i true)
def tailB (md : Region.Mode) (ops : Array Oper) (hd tl : List Nat) : Bool :=
  Region.noSelect ops && waitB md ops hd && headT md ops tl hd (Array.replicate ops.size false) && decide (hd.length + tl.length = ops.size)

structure InvT (md : Region.Mode) (ops : Array Oper) (listed : Array Bool) : Prop where
  size : listed.size = ops.size
  closed : ∀ j oj, ops[j]? = some oj → listed.getD j false = true → ∀ e ∈ oj.after, Region.binds md e = true → listed.getD e.on false = true
theorem InvT.set {i : Nat} {listed : Array Bool} (inv : InvT md ops listed) (hi : i ∈ Region.ready md ops listed) : InvT md ops (listed.setIfInBounds i true) := by
  obtain ⟨_, oi, hoi, hall⟩ := mem_ready.1 hi
  refine ⟨by simp [inv.size], fun j oj hj hl e he hb => ?_⟩
  by_cases hij : i = j
  · subst hij
    have : oj = oi := Option.some.inj (hj.symm.trans hoi)
    subst this
    exact getD_set_true (hall e he hb)
  · rw [getD_set_ne false hij] at hl
    exact getD_set_true (inv.closed j oj hj hl e he hb)
theorem reachT_in {listed : Array Bool} (inv : InvT md ops listed) {t : Nat} (hr : t ∈ Region.ready md ops listed) : ∀ (k : Nat) (s : List Nat), (∀ x ∈ s, x = t ∨ listed.getD x false = true) → ∀ x ∈ reachT md ops k s, x = t ∨ listed.getD x false = true
  | 0, s, h => h
  | k + 1, s, h => by
    refine reachT_in inv hr k _ fun x hx => ?_
    rw [List.mem_eraseDups] at hx
    rcases List.mem_append.1 hx with hx | hx
    · exact h x hx
    · have hx := (List.mem_filter.1 hx).1
      obtain ⟨y, hy, hxy⟩ := List.mem_flatMap.1 hx
      unfold depsT at hxy
      split at hxy
      · rename_i o ho
        obtain ⟨e, he, rfl⟩ := List.mem_map.1 hxy
        rw [List.mem_filter] at he
        have he1 : e ∈ o.after := by simpa using he.1
        rcases h y hy with rfl | hl
        · obtain ⟨_, ot, hot, hall⟩ := mem_ready.1 hr
          have : o = ot := Option.some.inj (ho.symm.trans hot)
          subst this
          exact .inr (hall e he1 he.2)
        · exact .inr (inv.closed y o ho hl e he1 he.2)
      · simp at hxy
theorem waitT {hd : List Nat} {listed : Array Bool} (hw : waitB md ops hd = true) (inv : InvT md ops listed) {i t : Nat} (hi : i ∈ hd) (hun : listed.getD i true = false) (ht : t ∈ Region.ready md ops listed) : t ∈ hd := by
  obtain ⟨_, ot, hot, _⟩ := mem_ready.1 ht
  have htlt : t < ops.size := (Array.getElem?_eq_some_iff.1 hot).1
  have h1 := List.all_eq_true.1 hw t (List.mem_range.2 htlt)
  simp only [Bool.or_eq_true, List.contains_iff_mem] at h1
  rcases h1 with h1 | h1
  · exact h1
  · have h2 := List.all_eq_true.1 h1 i hi
    have h3 : i ∈ reachT md ops ops.size [t] := by simpa using h2
    rcases reachT_in inv ht _ [t] (fun x hx => .inl (by simpa using hx)) i h3 with rfl | h4
    · exact hi
    · rw [getD_both hun] at h4; cases h4

/-- Whatever order is picked: the operations ahead come first. -/
def wpAnyT (P : Program) (md : Region.Mode) (ops : Array Oper) (C : World → Prop) (hd : List Nat) (L : Array Bool → Act → Prop) : Nat → Array Bool → Act → Prop
  | 0, listed, a => L listed a
  | f + 1, listed, a => Region.ready md ops listed ≠ [] ∧ ∀ i ∈ Region.ready md ops listed, i ∈ hd ∧ qOp P ops C i (wpAnyT P md ops C hd L f (listed.setIfInBounds i true)) a
theorem wpAny_of_headT {hd : List Nat} {g : Nat} {L : Array Bool → Act → Prop} {Q' : Exit → Act → World → Prop} (hL : ∀ listed a w, C w → L listed a → wpAny P md ops Q' g listed a w) :
    ∀ (f : Nat) (listed : Array Bool) (a : Act) (w : World), C w → wpAnyT P md ops C hd L f listed a → wpAny P md ops Q' (f + g) listed a w
  | 0, listed, a, w, hw, h => by rw [Nat.zero_add]; exact hL _ _ _ hw h
  | f + 1, listed, a, w, hw, h => by
    rw [show f + 1 + g = (f + g) + 1 by omega]
    exact ⟨fun h0 => absurd h0 h.1, fun i hi => wpOp_of_qOp hw (fun a' w' hw' => wpAny_of_headT hL f _ a' w' hw') (h.2 i hi).2⟩
theorem wpAnyT_first {hd : List Nat} {i : Nat} {oi : Oper} {v : Value} {L : Array Bool → Act → Prop} (hi : ops[i]? = some oi) (hsel : ∀ (j : Nat) (o : Oper) cs b, ops[j]? = some o → o.op ≠ .select cs b)
    (hw : waitB md ops hd = true) (hin : i ∈ hd) (hdone : ∀ listed a, L listed a → ∀ j ∈ Region.ready md ops listed, j ∉ hd) :
    ∀ (f : Nat) (listed : Array Bool) (a : Act), InvT md ops listed →
      (∀ j oj, ops[j]? = some oj → j ≠ i → listed.getD j true = false → (∀ e ∈ oj.after, Region.binds md e = true → e.on ≠ i) → oi.apart ops oj = true) →
      i ∈ Region.ready md ops listed → YieldsIn P ops C oi v a →
      wpAnyT P md ops C hd L f (listed.setIfInBounds i true) (a.put oi.dst v) → wpAnyT P md ops C hd L (f + 1) listed a := by
  intro f
  induction f with
  | zero =>
    intro listed a inv _ hr hy H
    have hun := (mem_ready.1 hr).1
    refine ⟨fun h => (by rw [h] at hr; cases hr), fun j hj => ?_⟩
    have hjn := waitT hw inv hin hun hj
    refine ⟨hjn, ?_⟩
    by_cases hji : j = i
    · subst hji; exact hy.qOp hi H
    · exact absurd hjn (hdone _ _ H j (ready_mono hj hji))
  | succ f ih =>
    intro listed a inv hfree hr hy H
    have hun := (mem_ready.1 hr).1
    refine ⟨fun h => (by rw [h] at hr; cases hr), fun j hj => ?_⟩
    have hjn := waitT hw inv hin hun hj
    refine ⟨hjn, ?_⟩
    by_cases hji : j = i
    · subst hji; exact hy.qOp hi H
    · have h1 := (H.2 j (ready_mono hj hji)).2
      obtain ⟨hjun, oj, hoj, hall⟩ := mem_ready.1 hj
      have hnot : ∀ e ∈ oj.after, Region.binds md e = true → e.on ≠ i := fun e he hb heq => by
        have h1 := hall e he hb
        rw [heq, getD_both hun] at h1
        cases h1
      have h2 := qOp_put hoj (hfree j oj hoj hji hjun hnot) (fun cs b => hsel i oi cs b hi) (fun cs b => hsel j oj cs b hoj) hy h1
      have hfree' : ∀ k ok, ops[k]? = some ok → k ≠ i → (listed.setIfInBounds j true).getD k true = false →
          (∀ e ∈ ok.after, Region.binds md e = true → e.on ≠ i) → oi.apart ops ok = true := fun k ok hk hki hun hno => by
        refine hfree k ok hk hki ?_ hno
        by_cases hjk : j = k
        · subst hjk; exact hjun
        · rw [getD_set_ne true hjk] at hun; exact hun
      refine qOp_mono (fun a' h3 => ih (listed.setIfInBounds j true) a' (inv.set hj) hfree' (ready_mono hr (Ne.symm hji)) h3.1 ?_) h2
      rw [Array.setIfInBounds_comm _ _ hji]
      exact h3.2
theorem seqT_ready {tl : List Nat} {listed : Array Bool} (h : seqT md ops tl listed = true) : ∀ j ∈ Region.ready md ops listed, j ∈ tl := by
  cases tl with
  | nil => intro j hj; simp only [seqT, List.isEmpty_iff] at h; rw [h] at hj; cases hj
  | cons t tl =>
    intro j hj
    simp only [seqT, Bool.and_eq_true, decide_eq_true_eq] at h
    rw [h.1] at hj
    have : j = t := by simpa using hj
    simp [this]
theorem wpAny_of_seqT {Q' : Exit → Act → World → Prop} : ∀ (tl : List Nat) (l : List Oper) (listed : Array Bool) (a : Act) (w : World), tl.map (fun i => ops[i]?) = l.map some →
    seqT md ops tl listed = true → wpList P ops Q' l a w → wpAny P md ops Q' tl.length listed a w
  | [], [], _, _, _, _, hB, h => ⟨by simpa [seqT] using hB, h⟩
  | [], _ :: _, _, _, _, hl, _, _ => by simp at hl
  | _ :: _, [], _, _, _, hl, _, _ => by simp at hl
  | t :: tl, o :: l, listed, a, w, hl, hB, h => by
    simp only [List.map_cons, List.cons.injEq] at hl
    simp only [List.length_cons, seqT, Bool.and_eq_true, decide_eq_true_eq] at hB ⊢
    refine ⟨fun h1 => (by rw [hB.1] at h1; cases h1), fun i hi => ?_⟩
    rw [hB.1] at hi
    have hik : i = t := by simpa using hi
    subst hik
    have hw : wpOp P ops Q' i (wpList P ops Q' l) a w := by unfold wpOp; simp only [hl.1]; exact h
    exact wpOp_mono (fun a' w' h' => wpAny_of_seqT tl l _ a' w' hl.2 hB.2 h') hw
theorem wpAnyT_lex {hd0 tl : List Nat} {Lq : Act → Prop} (hsel : Region.noSelect ops = true) (hw : waitB md ops hd0 = true) (hdj : ∀ j ∈ tl, j ∉ hd0) :
    ∀ (hd : List Nat) (l : List Oper) (listed : Array Bool) (a : Act), hd.map (fun i => ops[i]?) = l.map some → (∀ i ∈ hd, i ∈ hd0) → InvT md ops listed →
    headT md ops tl hd listed = true → wpQuiet P ops C Lq l a →
    wpAnyT P md ops C hd0 (fun listed' a' => seqT md ops tl listed' = true ∧ Lq a') hd.length listed a
  | [], [], listed, a, _, _, _, hB, h => ⟨by simpa [headT] using hB, h⟩
  | [], _ :: _, _, _, hl, _, _, _, _ => by simp at hl
  | _ :: _, [], _, _, hl, _, _, _, _ => by simp at hl
  | i :: hd, o :: l, listed, a, hl, hin, inv, hB, h => by
    simp only [List.map_cons, List.cons.injEq] at hl
    simp only [headT, Bool.and_eq_true] at hB
    obtain ⟨⟨hr, hf⟩, hB'⟩ := hB
    have hr' : i ∈ Region.ready md ops listed := by simpa using hr
    have hst : qOp P ops C i (wpQuiet P ops C Lq l) a := by unfold qOp; simp only [hl.1]; exact h
    obtain ⟨v, hy, hK⟩ := yieldsIn_of_qOp hl.1 hst
    exact wpAnyT_first hl.1 (Region.noSelect_spec hsel) hw (hin i (by simp)) (fun listed' a' hL j hj => hdj j (seqT_ready hL.1 j hj)) hd.length listed a inv (Region.free_spec hl.1 hf) hr' hy
      (wpAnyT_lex hsel hw hdj hd l _ _ hl.2 (fun j hj => hin j (by simp [hj])) (inv.set hr') hB' hK)
/-- the operations with these numbers -/
def pickT (l : List Oper) : List Nat → List Oper
  | [] => []
  | i :: is => (l.drop i).take 1 ++ pickT l is
theorem pickT_map {l : List Oper} : ∀ {is : List Nat}, (∀ i ∈ is, i < l.length) → is.map (fun i => l.toArray[i]?) = (pickT l is).map some
  | [], _ => rfl
  | i :: is, h => by
    have hi := h i (by simp)
    have e : (l.drop i).take 1 = [l[i]] := by rw [List.drop_eq_getElem_cons hi]; rfl
    have ih := pickT_map (l := l) (is := is) (fun j hj => h j (by simp [hj]))
    rw [List.map_cons, ih]
    show _ = ((l.drop i).take 1 ++ pickT l is).map some
    rw [e]
    simp [hi]
/-- **Quiet operations ahead in the order 'hd', then the tail in the order 'tl'.** -/
theorem wp_region_tail {id : Nat} {Q : Exit → Act → World → Prop} {a : Act} {w : World} {l : List Oper} (C : World → Prop) (hd tl : List Nat) (hm : P.follows .mixedOrders = true)
    (hB : (tailB .any l.toArray hd tl && (hd.all fun i => decide (i < l.length)) && (tl.all fun i => decide (i < l.length)) && (tl.all fun j => !hd.contains j)) = true) (hC : C { w with drawn := w.drawn + 1 })
    (h : wpQuiet P l.toArray C (fun a' => ∀ w', C w' → wpList P l.toArray Q (pickT l tl) a' w') (pickT l hd) a) : (Code.region id l.toArray true).wp P Q a w := by
  simp only [tailB, Bool.and_eq_true, decide_eq_true_eq, List.all_eq_true] at hB
  obtain ⟨⟨⟨⟨⟨⟨hsel, hw⟩, hlex⟩, hlen⟩, hh⟩, ht⟩, hdj⟩ := hB
  have inv0 : InvT .any l.toArray (Array.replicate l.toArray.size false) := ⟨by simp, fun j oj _ hl => (by rw [getD_replicate_false] at hl; cases hl)⟩
  have H := wpAnyT_lex (md := .any) hsel hw (fun j hj => by have := hdj j hj; simpa using this) hd (pickT l hd) _ a (pickT_map hh) (fun _ h => h) inv0 hlex h
  refine wp_region_any hm ?_
  have := wpAny_of_headT (Q' := Q) (g := tl.length) (fun listed a' w' hw' hL => wpAny_of_seqT tl (pickT l tl) listed a' w' (pickT_map ht) hL.1 (hL.2 w' hw')) _ _ _ _ hC H
  rw [hlen] at this
  exact this
end
end Go.Proofs.YtnhkoinjjbfofaaDoor


/-
  A region that draws its order: loads are taken first where nobody writes their cells before them.
-/
namespace Go.Proofs.YtnhkoinjjbfofaaDoor
open Go

section
variable {P : Program} {ops : Array Oper} {Q : Exit → Act → World → Prop} {md : Region.Mode} {S : World → Prop} {N : List Nat}

def invB (md : Region.Mode) (ops : Array Oper) (listed : Array Bool) : Bool :=
  decide (listed.size = ops.size) && (List.range ops.size).all fun j => !listed.getD j false || (depsT md ops j).all fun i => listed.getD i false
theorem invB_spec {listed : Array Bool} (h : invB md ops listed = true) : InvT md ops listed := by
  simp only [invB, Bool.and_eq_true, decide_eq_true_eq] at h
  refine ⟨h.1, fun j oj hj hl e he hb => ?_⟩
  have hlt : j < ops.size := (Array.getElem?_eq_some_iff.1 hj).1
  have h1 := List.all_eq_true.1 h.2 j (List.mem_range.2 hlt)
  rw [hl] at h1
  simp only [Bool.not_true, Bool.false_or] at h1
  refine List.all_eq_true.1 h1 e.on ?_
  unfold depsT
  rw [hj]
  exact List.mem_map.2 ⟨e, List.mem_filter.2 ⟨by simpa using he, hb⟩, rfl⟩
/-- each operation that waits for 'i' apart, all keep what the load reads -/
def nB (md : Region.Mode) (ops : Array Oper) (N : List Nat) (i : Nat) : Bool :=
  (List.range ops.size).all fun j => decide (j = i) || !N.contains j || (reachT md ops ops.size [j]).contains i
/-- Whatever order is picked from here on; S holds behind each operation that is carried out, those of N apart. -/
def wpAnyN (P : Program) (md : Region.Mode) (ops : Array Oper) (Q : Exit → Act → World → Prop) (S : World → Prop) (N : List Nat) : Nat → Array Bool → Act → World → Prop
  | 0, listed, a, w => Region.ready md ops listed = [] ∧ Q .normal a w
  | fuel + 1, listed, a, w =>
    (Region.ready md ops listed = [] → Q .normal a w) ∧
    ∀ i ∈ Region.ready md ops listed, wpOp P ops Q i (fun a' w' => (N.contains i = false → S w') ∧ wpAnyN P md ops Q S N fuel (listed.setIfInBounds i true) a' w') a w
theorem wpAny_of_N : ∀ (fuel : Nat) (listed : Array Bool) (a : Act) (w : World), wpAnyN P md ops Q S N fuel listed a w → wpAny P md ops Q fuel listed a w
  | 0, _, _, _, h => h
  | fuel + 1, _, _, _, h => ⟨h.1, fun i hi => wpOp_mono (fun a' w' h' => wpAny_of_N fuel _ a' w' h'.2) (h.2 i hi)⟩
theorem wpAnyN_first {i : Nat} {oi : Oper} {v : Value} (hi : ops[i]? = some oi) (hsel : ∀ (j : Nat) (o : Oper) cs b, ops[j]? = some o → o.op ≠ .select cs b)
    (hQ : ∀ c a w, Q (.panic c) (a.put oi.dst v) w → Q (.panic c) a w) (hn : nB md ops N i = true) :
    ∀ (fuel : Nat) (listed : Array Bool) (a : Act) (w : World), InvT md ops listed →
      (∀ j oj, ops[j]? = some oj → j ≠ i → listed.getD j true = false → (∀ e ∈ oj.after, Region.binds md e = true → e.on ≠ i) → oi.apart ops oj = true) →
      i ∈ Region.ready md ops listed → YieldsIf P ops S oi v a → S w →
      wpAnyN P md ops Q S N fuel (listed.setIfInBounds i true) (a.put oi.dst v) w → wpAnyN P md ops Q S N (fuel + 1) listed a w := by
  intro fuel
  induction fuel with
  | zero =>
    intro listed a w _ _ hr hy hS H
    refine ⟨fun h => (by rw [h] at hr; cases hr), fun j hj => ?_⟩
    by_cases hji : j = i
    · subst hji; exact hy.wpOp hi hS ⟨fun _ => hS, H⟩
    · have := ready_mono hj hji
      rw [H.1] at this
      cases this
  | succ fuel ih =>
    intro listed a w inv hfree hr hy hS H
    refine ⟨fun h => (by rw [h] at hr; cases hr), fun j hj => ?_⟩
    by_cases hji : j = i
    · subst hji; exact hy.wpOp hi hS ⟨fun _ => hS, H⟩
    · have h1 := H.2 j (ready_mono hj hji)
      obtain ⟨hjun, oj, hoj, hall⟩ := mem_ready.1 hj
      have hun := (mem_ready.1 hr).1
      have hnot : ∀ e ∈ oj.after, Region.binds md e = true → e.on ≠ i := fun e he hb heq => by
        have h1 := hall e he hb
        rw [heq, getD_both hun] at h1
        cases h1
      have hNj : N.contains j = false := by
        have h2 := List.all_eq_true.1 hn j (List.mem_range.2 (Array.getElem?_eq_some_iff.1 hoj).1)
        simp only [Bool.or_eq_true, decide_eq_true_eq, Bool.not_eq_true'] at h2
        rcases h2 with (h2 | h2) | h2
        · exact absurd h2 hji
        · exact h2
        · have h3 : i ∈ reachT md ops ops.size [j] := by simpa using h2
          rcases reachT_in inv hj _ [j] (fun x hx => .inl (by simpa using hx)) i h3 with h4 | h4
          · exact absurd h4.symm hji
          · rw [getD_both hun] at h4; cases h4
      have h2 := wpOp_putIf hoj (hfree j oj hoj hji hjun hnot) (fun cs b => hsel i oi cs b hi) (fun cs b => hsel j oj cs b hoj) hQ hy h1
      have hfree' : ∀ k ok, ops[k]? = some ok → k ≠ i → (listed.setIfInBounds j true).getD k true = false →
          (∀ e ∈ ok.after, Region.binds md e = true → e.on ≠ i) → oi.apart ops ok = true := fun k ok hk hki hun hno => by
        refine hfree k ok hk hki ?_ hno
        by_cases hjk : j = k
        · subst hjk; exact hjun
        · rw [getD_set_ne true hjk] at hun; exact hun
      refine wpOp_mono (fun a' w' h3 => ⟨h3.2.1, ih (listed.setIfInBounds j true) a' w' (inv.set hj) hfree' (ready_mono hr (Ne.symm hji)) h3.1 (h3.2.1 hNj) ?_⟩) h2
      rw [Array.setIfInBounds_comm _ _ hji]
      exact h3.2.2
def takeB (md : Region.Mode) (ops : Array Oper) (N : List Nat) (listed : Array Bool) (i : Nat) : Bool :=
  Region.noSelect ops && (Region.free md ops listed i && ((Region.ready md ops listed).contains i && (nB md ops N i && invB md ops listed)))
/-- Take number 'i' first. -/
theorem wpAnyN_take {i : Nat} {oi : Oper} {v : Value} {fuel : Nat} {listed : Array Bool} {a : Act} {w : World} (hi : ops[i]? = some oi) (hB : takeB md ops N listed i = true)
    (hQ : ∀ c a w, Q (.panic c) (a.put oi.dst v) w → Q (.panic c) a w) (hw : Region.wanted oi (yielded ops a.tmps) = true) (hy : ∀ w, S w → (execOp a.eval oi).run P w = .ok (.value v) w) (hS : S w)
    (h : wpAnyN P md ops Q S N fuel (listed.setIfInBounds i true) (a.put oi.dst v) w) : wpAnyN P md ops Q S N (fuel + 1) listed a w := by
  simp only [takeB, Bool.and_eq_true] at hB
  obtain ⟨h1, h2, h3, h4, h5⟩ := hB
  exact wpAnyN_first hi (Region.noSelect_spec h1) hQ h4 fuel listed a w (invB_spec h5) (Region.free_spec hi h2) (by simpa using h3) (.inl ⟨hw, hy⟩) hS h
/-- The one that comes up. -/
theorem wpAnyN_next {i : Nat} {o : Oper} {fuel : Nat} {listed : Array Bool} {a : Act} {w : World} (ho : ops[i]? = some o) (hr : Region.ready md ops listed = [i])
    (h : ∀ K' : Act → World → Prop, Shut (∀ a w, (N.contains i = false → S w) → wpAnyN P md ops Q S N fuel (listed.setIfInBounds i true) a w → K' a w) → if Region.wanted o (yielded ops a.tmps) = true then Oper.wp P o a w K' Q else K' (a.put o.dst undef) w) :
    wpAnyN P md ops Q S N (fuel + 1) listed a w := by
  refine ⟨fun h0 => (by rw [h0] at hr; cases hr), fun j hj => ?_⟩
  rw [hr] at hj
  obtain rfl : j = i := by simpa using hj
  exact wpOp_step ho (fun K' hK => h K' (fun a w hS hW => hK a w ⟨hS, hW⟩))
theorem wpAnyN_done {listed : Array Bool} {a : Act} {w : World} (hr : Region.ready md ops listed = []) (h : Q .normal a w) : ∀ fuel, wpAnyN P md ops Q S N fuel listed a w
  | 0 => ⟨hr, h⟩
  | _ + 1 => ⟨fun _ => h, by rw [hr]; simp⟩
theorem wp_region_N {id : Nat} {a : Act} {w : World} (S : World → Prop) (N : List Nat) (hm : P.follows .mixedOrders = true)
    (h : wpAnyN P .any ops Q S N ops.size (Array.replicate ops.size false) a w.drew) : (Code.region id ops true).wp P Q a w :=
  wp_region_any hm (wpAny_of_N _ _ _ _ h)
end
end Go.Proofs.YtnhkoinjjbfofaaDoor


/-
  The text of a grammar, in the program.
-/
namespace Go.Proofs.YtnhkoinjjbfofaaDoor
open Go.RowKit

theorem wf_szG {rs : List Fac} (hwf : WF rs) : ∀ f ∈ rs, f.l.size ≤ maxLen := fun f hf => by
  obtain ⟨k, hk, rfl⟩ := List.getElem_of_mem hf
  rcases hwf k _ (List.getElem?_eq_getElem hk) with ⟨q, _⟩ | ⟨ch, _, q, _⟩
  · unfold maxLen; omega
  · rw [q]; show (1 : Nat) ≤ maxLen; unfold maxLen; omega
theorem lineT_len {f : Fac} (h : FacIn f) (ha : f.a < 400) (hb : f.b < 400) : (lineT f).size ≤ 8 := by
  have h1 := body_small h ha hb
  have h2 := lineT_body f
  have h3 : (lineT f).data.toList.length = (lineT f).size := by simp
  rw [h2, List.length_append] at h3
  simp only [List.length_cons, List.length_nil] at h3
  omega
set_option maxHeartbeats 2000000 in
set_option maxRecDepth 100000 in
theorem gText_any (A : Option Addr) (n c : Nat) (rs : List Fac) (ls : List Int) (w : World) (hr : Rd w w.heap.size A n 3 Fac.cells rs) (hls : gOk rs = some ls) (ht : TabD w) :
    Calls Tryd.prog 6 #[.agg #[.slice A n c]] w (Ret (.string (textT rs ⟨#[]⟩)) w) := by
  have hl := Lib.hid hr.len
  have HR := Lib.hid hr
  have HT := Lib.hid ht
  obtain ⟨hgl, h400, hlen⟩ := gOk_lens hls
  have hsz := wf_szG (wf_of hgl)
  have HV := Lib.hid (fun W (h : Below w.heap.size w W) => validG_any A n c rs W (by have := hl.out; omega) (HR.out.next h) hsz true (by rw [hls]; rfl))
  have HIn := Lib.hid (gin hls)
  have hn4 : n ≤ 400 := by have := hl.out; omega
  clear hr ht hgl h400 hlen hsz hls
  go_enter Tryd.func6, Tryd.ntmps6
  go_wp2_with fail
  refine namedC fun w0 H0 => ?_
  have hb0 : Below w.heap.size w w0 := by rw [H0.out]; (repeat first | exact Below.refl _ _ | assumption | refine Below.drew ?_ | refine Below.alloc ?_ (by first | exact Nat.le_refl _ | (simp; done) | omega | (simp; omega)) _ | refine Below.setCell ?_ (by first | exact Nat.le_refl _ | (simp; done) | omega | (simp; omega)) _)
  have BG := Lib.hid (show Blk w0 w.heap.size 26 #[.slice A n c] by rw [H0.out]; exact Blk.new _ _ _)
  clear H0
  refine (HV.out w0 hb0).mono ?_
  rintro e1 w1 ⟨rfl, hb1⟩
  have B1 := Lib.hid (hb0.trans (hb1.mono hb0.size))
  have BG1 := Lib.hid (BG.out.next hb1)
  have g0 := BG1.out.cell 0
  have gl := BG1.out.lt
  clear hb0 hb1 BG
  go_wp2_with fail
  obtain ⟨w2, H2⟩ : ∃ w2, Hid (w2 = w1.alloc (.cells #[.pointer none, .slice none 0 0] 46)) := ⟨_, Lib.hid rfl⟩
  rw [← H2.out]
  have hb2 : Below w1.heap.size w1 w2 := by rw [H2.out]; (repeat first | exact Below.refl _ _ | assumption | refine Below.drew ?_ | refine Below.alloc ?_ (by first | exact Nat.le_refl _ | (simp; done) | omega | (simp; omega)) _ | refine Below.setCell ?_ (by first | exact Nat.le_refl _ | (simp; done) | omega | (simp; omega)) _)
  have BO := Lib.hid (show Bld w.heap.size w1.heap.size [] w2 from Bld.fresh B1.out.size (by rw [H2.out]; exact Blk.new _ _ _))
  have B2 := Lib.hid (B1.out.trans (hb2.mono B1.out.size))
  have hob := B1.out.size
  clear H2 g0 gl hb2
  generalize hobe : w1.heap.size = ob at *
  go_loopw [13] (fun i_ w' => ∃ (i : Nat) (out : ByteArray), i_ = .int .i64 i ∧ i ≤ n ∧ out.size ≤ i * 8 ∧ Hid (textT (rs.drop i) out = textT rs ⟨#[]⟩) ∧ Hid (Bld w.heap.size ob out.data.toList w') ∧ Hid (Below w.heap.size w w')) (fun i_ _ => n - (intOf i_).toNat)
  case atStart => exact ⟨0, ⟨#[]⟩, rfl, by omega, by show 0 ≤ _; omega, Lib.hid rfl, BO, B2⟩
  case round =>
    obtain ⟨i, out, rfl, hi, hos, HE, HB, Hb⟩ := hrel
    clear BO B2
    by_cases hlt : i < n
    · obtain ⟨b, o, x, rfl, hB, gx, c0, c1, c2⟩ := (HR.out.next Hb.out).fac hlt
      have HE2 := Lib.hid (show textT (rs.drop (i + 1)) (out ++ lineT x) = textT rs ⟨#[]⟩ by rw [← HE.out, drop_cons gx]; rfl)
      have hxo := HIn.out x (List.mem_of_getElem? gx)
      have hls := lineT_len hxo.1 hxo.2.1 hxo.2.2
      have HXo := Lib.hid hxo
      have i0 : (0 : Int) ≤ (i : Int) := by omega
      have i1 : (i : Int) < (n : Int) := by omega
      have hol := HB.out.lt
      clear gx HE hxo
      go_wp2_with fail
      refine namedC fun w5 H5 => ?_
      have hb5 : Below wr.heap.size wr w5 := by rw [H5.out]; (repeat first | exact Below.refl _ _ | assumption | refine Below.drew ?_ | refine Below.alloc ?_ (by first | exact Nat.le_refl _ | (simp; done) | omega | (simp; omega)) _ | refine Below.setCell ?_ (by first | exact Nat.le_refl _ | (simp; done) | omega | (simp; omega)) _)
      have BX := Lib.hid (show Blk w5 wr.heap.size 48 #[.string x.l, .int .i64 x.a, .int .i64 x.b] by rw [H5.out]; exact Blk.new _ _ _)
      clear H5
      obtain ⟨pb, hpb⟩ : ∃ pb, isP x = pb := ⟨_, rfl⟩
      refine (isPair_any x pb _ hpb).mono ?_
      rintro e w6 ⟨rfl, hb6⟩
      have b56 := Lib.hid (hb5.trans (hb6.mono hb5.size))
      have b6 := Lib.hid (Hb.out.trans (b56.out.mono Hb.out.size))
      have X6 := Lib.hid (BX.out.next hb6)
      have O6 := Lib.hid (HB.out.next b56.out)
      have hx6 := X6.out.lt
      clear BX hb5 hb6 c0 c1 c2
      generalize hX : wr.heap.size = X at *
      by_cases h0 : x.l.size = 0
      · obtain rfl : pb = true := by rw [← hpb]; simp [isP, h0]
        have hlx : lineT x = ((decS x.a.toNat ++ spB) ++ decS x.b.toNat) ++ nlB := by unfold lineT; rw [if_pos h0]
        rcases HXo.out.1 with ⟨_, ha0, ha1, hb0, hb1⟩ | ⟨ch, _, hq, _⟩
        rotate_left
        · rw [hq] at h0; exact absurd h0 (show ¬ (1 : Nat) = 0 by omega)
        obtain ⟨p, hp⟩ : ∃ p : Nat, x.a = p := ⟨x.a.toNat, by omega⟩
        obtain ⟨q, hq⟩ : ∃ q : Nat, x.b = q := ⟨x.b.toNat, by omega⟩
        rw [hp, hq] at X6
        rw [hp, hq, Int.toNat_natCast, Int.toNat_natCast] at hlx
        rw [hlx] at HE2 hls
        have D1 := Lib.hid (fun (W : World) (hb : Below w.heap.size w W) => implDec_any p (by omega) W (tab_up HT.out hb))
        have D2 := Lib.hid (fun (W : World) (hb : Below w.heap.size w W) => implDec_any q (by omega) W (tab_up HT.out hb))
        have p15 : p ≤ 1000000000000000 := by omega
        have q15 : q ≤ 1000000000000000 := by omega
        have s1 := decS_size p
        have s2 := decS_size q
        have z1 : ¬ 9223372036854775807 < (decS p).size + 1 := by omega
        have z2 : ¬ 9223372036854775807 < (decS p).size + 1 + (decS q).size := by omega
        have z3 : ¬ 9223372036854775807 < (decS p).size + 1 + (decS q).size + 1 := by omega
        have WR := Lib.hid (fun (W : World) (hb : Below w6.heap.size w6 W) => bWriteK_any w.heap.size ob out.data.toList (((decS p ++ spB) ++ decS q) ++ nlB) W (O6.out.next hb) (by rw [len_byteR]; omega) (by have := b6.out.size; have := hb.size; omega))
        have HS := Lib.hid (fun (W : World) (h : Below w6.heap.size w6 W) => show W.cell? ⟨X, 1, none⟩ = some (.int .i64 (p : Int)) ∧ W.cell? ⟨X, 2, none⟩ = some (.int .i64 (q : Int)) from ⟨(X6.out.next h).cell 1, (X6.out.next h).cell 2⟩)
        clear hlx h0 hp hq ha0 ha1 hb0 hb1 s1 s2 hpb
        go_wp2_with fail
        refine wp_region_N (fun W => W.cell? ⟨X, 1, none⟩ = some (.int .i64 (p : Int)) ∧ W.cell? ⟨X, 2, none⟩ = some (.int .i64 (q : Int))) [9] (by kernel_rfl) ?_
        have c6 : Below w6.heap.size w6 w6.drew := (Below.refl _ _).drew
        have hS0 := HS.out _ c6
        refine wpAnyN_take (i := 0) (v := ?_) rfl (by kernel_rfl) (fun _ _ _ h => h) (by rfl) (fun W hW => ?_) hS0 ?_
        rotate_left
        · obtain ⟨z0, z1⟩ := hW
          go_simp
          try with_reducible rfl
        try simp only [List.getElem_toArray, List.getElem_cons_zero, List.getElem_cons_succ, Act.put, List.setIfInBounds_toArray, List.set_cons_zero, List.set_cons_succ]
        refine wpAnyN_take (i := 1) (v := ?_) rfl (by kernel_rfl) (fun _ _ _ h => h) (by rfl) (fun W hW => ?_) hS0 ?_
        rotate_left
        · obtain ⟨z0, z1⟩ := hW
          go_simp
          try with_reducible rfl
        try simp only [List.getElem_toArray, List.getElem_cons_zero, List.getElem_cons_succ, Act.put, List.setIfInBounds_toArray, List.set_cons_zero, List.set_cons_succ]
        refine wpAnyN_take (i := 4) (v := ?_) rfl (by kernel_rfl) (fun _ _ _ h => h) (by rfl) (fun W hW => ?_) hS0 ?_
        rotate_left
        · obtain ⟨z0, z1⟩ := hW
          go_simp
          try with_reducible rfl
        try simp only [List.getElem_toArray, List.getElem_cons_zero, List.getElem_cons_succ, Act.put, List.setIfInBounds_toArray, List.set_cons_zero, List.set_cons_succ]
        refine wpAnyN_take (i := 5) (v := ?_) rfl (by kernel_rfl) (fun _ _ _ h => h) (by rfl) (fun W hW => ?_) hS0 ?_
        rotate_left
        · obtain ⟨z0, z1⟩ := hW
          go_simp
          try with_reducible rfl
        try simp only [List.getElem_toArray, List.getElem_cons_zero, List.getElem_cons_succ, Act.put, List.setIfInBounds_toArray, List.set_cons_zero, List.set_cons_succ]
        refine wpAnyN_next (i := 2) rfl (by kernel_rfl) (fun Kc hK => ?_)
        go_simp
        go_wp2_with (go_at_call 21; refine (D1.out _ (b6.out.trans (c6.mono b6.out.size))).mono ?_; rintro e w7 ⟨rfl, hb7⟩)
        have c7 : Below w6.heap.size w6 w7 := c6.trans (hb7.mono c6.size)
        refine hK.out _ _ (fun _ => HS.out _ c7) ?_
        clear hK Kc
        try simp only [List.getElem_toArray, List.getElem_cons_zero, List.getElem_cons_succ, Act.put, List.setIfInBounds_toArray, List.set_cons_zero, List.set_cons_succ]
        have hS1 := HS.out _ c7
        refine wpAnyN_take (i := 3) (v := ?_) rfl (by kernel_rfl) (fun _ _ _ h => h) (by rfl) (fun W hW => ?_) hS1 ?_
        rotate_left
        · obtain ⟨z0, z1⟩ := hW
          go_simp
          try with_reducible rfl
        try simp only [List.getElem_toArray, List.getElem_cons_zero, List.getElem_cons_succ, Act.put, List.setIfInBounds_toArray, List.set_cons_zero, List.set_cons_succ]
        refine wpAnyN_next (i := 6) rfl (by kernel_rfl) (fun Kc hK => ?_)
        go_simp
        go_wp2_with (go_at_call 21; refine (D2.out _ (b6.out.trans (c7.mono b6.out.size))).mono ?_; rintro e w8 ⟨rfl, hb8⟩)
        have c8 : Below w6.heap.size w6 w8 := c7.trans (hb8.mono c7.size)
        refine hK.out _ _ (fun _ => HS.out _ c8) ?_
        clear hK Kc
        try simp only [List.getElem_toArray, List.getElem_cons_zero, List.getElem_cons_succ, Act.put, List.setIfInBounds_toArray, List.set_cons_zero, List.set_cons_succ]
        have hS2 := HS.out _ c8
        refine wpAnyN_take (i := 7) (v := ?_) rfl (by kernel_rfl) (fun _ _ _ h => h) (by rfl) (fun W hW => ?_) hS2 ?_
        rotate_left
        · obtain ⟨z0, z1⟩ := hW
          go_simp
          try with_reducible rfl
        try simp only [List.getElem_toArray, List.getElem_cons_zero, List.getElem_cons_succ, Act.put, List.setIfInBounds_toArray, List.set_cons_zero, List.set_cons_succ]
        refine wpAnyN_take (i := 8) (v := ?_) rfl (by kernel_rfl) (fun _ _ _ h => h) (by rfl) (fun W hW => ?_) hS2 ?_
        rotate_left
        · obtain ⟨z0, z1⟩ := hW
          go_simp
          try with_reducible rfl
        try simp only [List.getElem_toArray, List.getElem_cons_zero, List.getElem_cons_succ, Act.put, List.setIfInBounds_toArray, List.set_cons_zero, List.set_cons_succ]
        refine wpAnyN_next (i := 9) rfl (by kernel_rfl) (fun Kc hK => ?_)
        go_simp
        go_wp2_with (go_at_call 20; refine (WR.out _ (c8)).mono ?_; rintro e w9 ⟨rfl, hk9, hB9⟩)
        refine hK.out _ _ (fun h => absurd h (by decide)) ?_
        clear hK Kc
        try simp only [List.getElem_toArray, List.getElem_cons_zero, List.getElem_cons_succ, Act.put, List.setIfInBounds_toArray, List.set_cons_zero, List.set_cons_succ]
        refine wpAnyN_done (by kernel_rfl) ?_ _
        have hk := hk9
        have K9 := Lib.hid (show Below w.heap.size w w9 from (b6.out.trans (c8.mono b6.out.size)).trans hk.b)
        have B9 := Lib.hid hB9
        clear hk hk9 hB9 c6 c7 c8 hb7 hb8 hS0 hS1 hS2 HS D1 D2 WR
        go_wp2_with fail
        go_roundw
        case rel => exact ⟨i + 1, out ++ (((decS p ++ spB) ++ decS q) ++ nlB), by go_num, by omega, by rw [ByteArray.size_append]; omega, HE2, Lib.hid (by rw [ByteArray.data_append, Array.toList_append]; exact B9.out), K9⟩
        case measure => simp [intOf]; omega
      · obtain rfl : pb = false := by rw [← hpb]; simp [isP, h0]
        have hlx : lineT x = x.l ++ nlB := by unfold lineT; rw [if_neg h0]
        rw [hlx] at HE2 hls
        have x0 : w6.cell? ⟨X, 0, none⟩ = some (.string x.l) := X6.out.cell 0
        have hlz : x.l.size + 1 ≤ 8 := by rw [ByteArray.size_append] at hls; exact hls
        have z1 : ¬ 9223372036854775807 < x.l.size + 1 := by omega
        have WR := Lib.hid (bWriteK_any w.heap.size ob out.data.toList (x.l ++ nlB) w6 O6.out (by rw [len_byteR]; omega) b6.out.size)
        clear hpb h0 hlx
        go_wp2_with fail
        refine WR.out.mono ?_
        rintro e w9 ⟨rfl, hk9, hB9⟩
        have K9 := Lib.hid (show Below w.heap.size w w9 from b6.out.trans hk9.b)
        have B9 := Lib.hid hB9
        clear hk9 hB9 WR
        go_wp2_with fail
        go_roundw
        case rel => exact ⟨i + 1, out ++ (x.l ++ nlB), by go_num, by omega, by rw [ByteArray.size_append]; omega, HE2, Lib.hid (by rw [ByteArray.data_append, Array.toList_append]; exact B9.out), K9⟩
        case measure => simp [intOf]; omega
    · obtain rfl : i = n := by omega
      have ho : out = textT rs ⟨#[]⟩ := by rw [← HE.out, List.drop_of_length_le (by have := hl.out; omega)]; rfl
      have HSt := Lib.hid (Tryd.Builder_String_any w.heap.size ob out.data.toList wr HB.out Hb.out.size)
      have hob2 : (⟨out.data.toList.toArray⟩ : ByteArray) = textT rs ⟨#[]⟩ := by rw [← ho]
      rw [hob2] at HSt
      generalize textT rs ⟨#[]⟩ = T at *
      clear ho hob2 HE HB
      have i1 : ¬ (i : Int) < (i : Int) := by omega
      go_wp2_with fail
      refine HSt.out.mono ?_
      rintro e w3 ⟨rfl, hb3⟩
      have b3 := Lib.hid (Hb.out.trans hb3)
      clear hb3
      go_wp2_with fail
      go_ret
      exact ⟨rfl, b3.out⟩
end Go.Proofs.YtnhkoinjjbfofaaDoor


/-
  A grammar trimmed: the plain part.
-/
namespace Go.Proofs.YtnhkoinjjbfofaaDoor

/-- a rule with the numbers that stand for its parts -/
def trR (same : List Int) (r : Fac) : Fac := if r.l.size = 0 then ⟨⟨#[]⟩, same.getD r.a.toNat 0, same.getD r.b.toNat 0⟩ else r
/-- the rules, told by the first equal ones; the first equal one of each rule -/
def trK : List Fac → List Fac → List Int → List Fac × List Int
  | [], kept, same => (kept, same)
  | r :: rs, kept, same => trK rs (kept ++ [trR same r]) (same ++ [((kept.idxOf (trR same r) : Nat) : Int)])
/-- which rules the last one is made of -/
def useStep (kept : List Fac) (i : Nat) (u : List Bool) : List Bool := if u.getD i false = true ∧ (kept.getD i default).l.size = 0 then (u.set (kept.getD i default).a.toNat true).set (kept.getD i default).b.toNat true else u
def useT (kept : List Fac) : Nat → List Bool → List Bool
  | 0, u => u
  | i + 1, u => useT kept i (useStep kept i u)
def use0 (n : Nat) (same : List Int) : List Bool := (List.replicate n false).set (same.getD (n - 1) 0).toNat true
/-- the rules that are left -/
def outT (used : List Bool) : Nat → List Fac → List Fac → List Int → List Fac
  | _, [], out, _ => out
  | i, r :: ks, out, at_ => if used.getD i false = true then outT used (i + 1) ks (out ++ [trR at_ r]) (at_.set i (out.length : Int)) else outT used (i + 1) ks out at_
def trimL (rs : List Fac) : List Fac :=
  if rs.length = 0 then [] else outT (useT (trK rs [] []).1 rs.length (use0 rs.length (trK rs [] []).2)) 0 (trK rs [] []).1 [] (List.replicate rs.length 0)

/-- what holds of the rules that are told by the first equal ones -/
structure TrI (kept : List Fac) (same : List Int) : Prop where
  len : same.length = kept.length
  s : ∀ j, j < kept.length → 0 ≤ same.getD j 0 ∧ same.getD j 0 ≤ (j : Int)
  k : ∀ (j : Nat) (r : Fac), kept[j]? = some r → (r.l.size = 0 ∧ 0 ≤ r.a ∧ r.a < (j : Int) ∧ 0 ≤ r.b ∧ r.b < (j : Int)) ∨ (∃ c, letB c = true ∧ r.l = ⟨#[c]⟩ ∧ r.a = 0 ∧ r.b = 0)
theorem TrI.nil : TrI [] [] := ⟨rfl, fun j h => absurd h (by simp), fun j r h => by simp at h⟩
theorem TrI.step {rs kept : List Fac} {same : List Int} (h : TrI kept same) (hwf : WF rs) {r : Fac} (hr : rs[kept.length]? = some r) : TrI (kept ++ [trR same r]) (same ++ [((kept.idxOf (trR same r) : Nat) : Int)]) := by
  have hl := h.len
  refine ⟨by simp [hl], fun j hj => ?_, fun j x hx => ?_⟩
  · simp only [List.length_append, List.length_singleton] at hj
    by_cases e : j < kept.length
    · rw [List.getD_eq_getElem?_getD, List.getElem?_append_left (by omega), ← List.getD_eq_getElem?_getD]; exact h.s j e
    · obtain rfl : j = kept.length := by omega
      rw [List.getD_eq_getElem?_getD, List.getElem?_append_right (by omega), hl, Nat.sub_self]
      simp only [List.getElem?_cons_zero, Option.getD_some]
      have := List.idxOf_le_length (a := trR same r) (l := kept)
      omega
  · by_cases e : j < kept.length
    · rw [List.getElem?_append_left e] at hx; exact h.k j x hx
    · have hj2 := (List.getElem?_eq_some_iff.1 hx).1
      simp only [List.length_append, List.length_singleton] at hj2
      obtain rfl : j = kept.length := by omega
      rw [List.getElem?_append_right (Nat.le_refl _), Nat.sub_self] at hx
      obtain rfl : trR same r = x := by simpa using hx
      rcases hwf _ r hr with ⟨h0, a0, a1, b0, b1⟩ | ⟨c, hc, hxl, ha, hb⟩
      · left
        unfold trR
        rw [if_pos h0]
        have s1 := h.s r.a.toNat (by omega)
        have s2 := h.s r.b.toNat (by omega)
        exact ⟨rfl, s1.1, by simp only; omega, s2.1, by simp only; omega⟩
      · right
        have h0 : r.l.size ≠ 0 := by rw [hxl]; show (1 : Nat) ≠ 0; omega
        unfold trR
        rw [if_neg h0]
        exact ⟨c, hc, hxl, ha, hb⟩
/-- the rules told, step by step -/
theorem trK_take (rs : List Fac) {k : Nat} {kept : List Fac} {same : List Int} {r : Fac} (hr : rs[k]? = some r) (H : trK (rs.drop k) kept same = trK rs [] []) : trK (rs.drop (k + 1)) (kept ++ [trR same r]) (same ++ [((kept.idxOf (trR same r) : Nat) : Int)]) = trK rs [] [] := by
  rw [← H, drop_cons hr]; rfl
theorem trK_all {rs : List Fac} {kept : List Fac} {same : List Int} {k : Nat} (hk : rs.length ≤ k) (H : trK (rs.drop k) kept same = trK rs [] []) : (kept, same) = trK rs [] [] := by
  rw [← H, List.drop_of_length_le hk]; rfl
theorem trK_I {rs : List Fac} (hwf : WF rs) : ∀ (k : Nat) (kept : List Fac) (same : List Int), TrI kept same → kept.length = k → k ≤ rs.length → TrI (trK (rs.drop k) kept same).1 (trK (rs.drop k) kept same).2 ∧ (trK (rs.drop k) kept same).1.length = rs.length := by
  intro k
  induction hd : rs.length - k generalizing k with
  | zero =>
    intro kept same h hk hle
    rw [List.drop_of_length_le (by omega)]
    exact ⟨h, by show kept.length = _; omega⟩
  | succ d ih =>
    intro kept same h hk hle
    have hr : rs[k]? = some (rs[k]'(by omega)) := List.getElem?_eq_getElem _
    rw [drop_cons hr]
    exact ih (k + 1) (by omega) _ _ (h.step hwf (by rw [hk]; exact hr)) (by simp [hk]) (by omega)
theorem idxOf_le {α : Type} [DecidableEq α] {x : α} : ∀ {l : List α} {j : Nat}, l[j]? = some x → l.idxOf x ≤ j
  | [], j, h => by simp at h
  | y :: l, 0, h => by
    obtain rfl : y = x := by simpa using h
    simp
  | y :: l, j + 1, h => by
    rw [List.idxOf_cons]
    by_cases e : y = x
    · subst e; simp
    · have := idxOf_le (l := l) (j := j) (x := x) (by simpa using h)
      rw [show (y == x) = false by simpa using e]
      show (bif false then 0 else l.idxOf x + 1) ≤ j + 1
      simp only [cond_false]
      omega
/-- the least number of an equal rule, looked for among those that are first ones -/
theorem first_eq {kept : List Fac} {same : List Int} (hs : ∀ (j : Nat) (x : Fac), kept[j]? = some x → same.getD j 0 = ((kept.idxOf x : Nat) : Int)) {j : Nat} {x : Fac} (hj : kept[j]? = some x) (h0 : ∀ i, i < j → kept[i]? ≠ some x) : same.getD j 0 = (j : Int) := by
  rw [hs j x hj]
  have hlt := (List.getElem?_eq_some_iff.1 hj).1
  have hm : x ∈ kept := List.mem_of_getElem? hj
  have h1 : kept.idxOf x < kept.length := List.idxOf_lt_length_iff.2 hm
  have h2 : kept[kept.idxOf x]? = some x := by rw [List.getElem?_eq_getElem h1, List.getElem_idxOf]
  rcases Nat.lt_trichotomy (kept.idxOf x) j with h | h | h
  · exact absurd h2 (h0 _ h)
  · rw [h]
  · exfalso
    have := idxOf_le hj
    omega
theorem idx_app1 {f y : Fac} {kept : List Fac} (h : f ∈ kept) : (kept ++ [y]).idxOf f = kept.idxOf f := by rw [List.idxOf_append, if_pos h]
theorem idx_app2 (y : Fac) (kept : List Fac) : (kept ++ [y]).idxOf y = kept.idxOf y := by
  rw [List.idxOf_append]
  by_cases h : y ∈ kept
  · rw [if_pos h]
  · rw [if_neg h, List.idxOf_eq_length h]; simp
/-- the map behind a rule that was known -/
theorem map_known {g : Fac → Option Value} {y : Fac} {kept : List Fac} (h : ∀ f, g f = if f ∈ kept then some (.int .i64 ((kept.idxOf f : Nat) : Int)) else none) (hy : y ∈ kept) (f : Fac) : g f = if f ∈ kept ++ [y] then some (.int .i64 (((kept ++ [y]).idxOf f : Nat) : Int)) else none := by
  rw [h f]
  by_cases hf : f ∈ kept
  · rw [if_pos hf, if_pos (List.mem_append_left _ hf), idx_app1 hf]
  · rw [if_neg hf, if_neg (by
      intro e
      rcases List.mem_append.1 e with e | e
      · exact hf e
      · rw [List.mem_singleton.1 e] at hf; exact hf hy)]
/-- and behind one that was not -/
theorem map_new {g : Fac → Option Value} {y : Fac} {kept : List Fac} (h : ∀ f, g f = if f ∈ kept then some (.int .i64 ((kept.idxOf f : Nat) : Int)) else none) (hy : y ∉ kept) (f : Fac) : (if f = y then some (.int .i64 (kept.length : Int)) else g f) = if f ∈ kept ++ [y] then some (.int .i64 (((kept ++ [y]).idxOf f : Nat) : Int)) else none := by
  by_cases hf : f = y
  · subst hf
    rw [if_pos rfl, if_pos (by simp), idx_app2, List.idxOf_eq_length hy]
  · rw [if_neg hf, h f]
    by_cases hk : f ∈ kept
    · rw [if_pos hk, if_pos (List.mem_append_left _ hk), idx_app1 hk]
    · rw [if_neg hk, if_neg (by
        intro e
        rcases List.mem_append.1 e with e | e
        · exact hk e
        · exact hf (List.mem_singleton.1 e))]
end Go.Proofs.YtnhkoinjjbfofaaDoor


/-
  The walk made to stand ahead of an operation, so that a law can be laid there.
-/
namespace Go.Proofs.YtnhkoinjjbfofaaDoor
open Go.RowKit

/-! ### the walk made to stand ahead of an operation -/
def Stop (p : Prop) : Prop := p
theorem stopW {P : Program} {ops : Array Oper} {Q : Exit → Act → World → Prop} {a : Act} {W : World} {l : List Oper} (h : Stop (wpList P ops Q l a W)) : wpList P ops Q l a W := h
theorem stop_named {P : Program} {ops : Array Oper} {Q : Exit → Act → World → Prop} {a : Act} {W : World} {l : List Oper} (h : ∀ w, Hid (w = W) → Stop (wpList P ops Q l a w)) : Stop (wpList P ops Q l a W) := h W (Lib.hid rfl)
end Go.Proofs.YtnhkoinjjbfofaaDoor
