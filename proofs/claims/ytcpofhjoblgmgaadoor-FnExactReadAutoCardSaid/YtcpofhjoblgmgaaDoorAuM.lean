
/-
  Automata that are read: the text of a valid automaton gives it again, by the program's way and by the reference's. Plain.
-/
import Derived.Test.YtcpofhjoblgmgaaDoorMch
import Derived.Test.YtcpofhjoblgmgaaDoorRfM
namespace Go.Proofs.YtcpofhjoblgmgaaDoor
open Go.RowKit

def risB (hi : Int) : Option Int → List Int → Bool
  | _, [] => true
  | p, x :: r => (inB x 0 hi && (match p with | none => true | some y => decide (y < x))) && risB hi (some x) r
structure AuM where
  s : Int
  q : Int
  fin : List Int
  nx : List (List Int)
def auB (a : AuM) : Bool := mchB a.s a.q a.nx && risB (w1 a.s) none a.fin
/-- numbers, each behind a blank -/
def nuT (l : List Int) : List UInt8 := l.flatMap fun n => 32 :: Lib.decDigits n.toNat
def autoW : List UInt8 := [97, 117, 116, 111]
def finsW : List UInt8 := [102, 105, 110, 97, 108, 115]
def stateW : List UInt8 := [115, 116, 97, 116, 101]
def lineW (w : List UInt8) (l : List Int) : List UInt8 := w ++ nuT l
def auT (a : AuM) : List UInt8 := lineW autoW [a.s, a.q] ++ [10] ++ (lineW finsW a.fin ++ [10]) ++ a.nx.flatMap fun r => lineW stateW r ++ [10]
/-- a number of one to eighteen digits -/
def num18 (l : List UInt8) : Option Int := if l.length < 1 ∨ 18 < l.length ∨ (l.getD 0 0 = 48 ∧ 1 < l.length) then none else if nuS 0 l = -1 then none else some (nuS 0 l)
def nbI (l : List UInt8) : List Int := ((spl 32 l).drop 1).map pI
def nbS (l : List UInt8) : List Int := ((spl 32 l).drop 1).map fun x => (num18 x).getD (-1)
def rdAI (L : List (List UInt8)) : Option AuM := if L.length < 3 ∨ (nbI (L.getD 0 [])).length ≠ 2 then none else some ⟨(nbI (L.getD 0 [])).getD 0 0, (nbI (L.getD 0 [])).getD 1 0, nbI (L.getD 1 []), ((L.drop 2).dropLast).map nbI⟩
def rdAS (L : List (List UInt8)) : AuM := ⟨(nbS (L.getD 0 []) ++ [-1, -1]).getD 0 0, (nbS (L.getD 0 []) ++ [-1, -1]).getD 1 0, if L.length < 3 then [] else nbS (L.getD 1 []), ((L.drop 2).dropLast).map nbS⟩
def ansI (s : ByteArray) : Option AuM × Int := if 2000 < s.size then (none, 2) else match rdAI (spl 10 s.data.toList) with | none => (none, 5) | some a => if auB a = true ∧ auT a = s.data.toList then (some a, 0) else (none, 5)
def ansS (s : ByteArray) : Option AuM × Int := if 2000 < s.size then (none, 2) else if auB (rdAS (spl 10 s.data.toList)) = true ∧ auT (rdAS (spl 10 s.data.toList)) = s.data.toList then (some (rdAS (spl 10 s.data.toList)), 0) else (none, 5)
theorem ris_in {hi : Int} : ∀ (l : List Int) (p : Option Int), risB hi p l = true → ∀ z ∈ l, 0 ≤ z ∧ z ≤ hi
  | [], _, _, z, hz => by cases hz
  | x :: r, p, h, z, hz => by
    simp only [risB, Bool.and_eq_true, inB, decide_eq_true_eq] at h
    rcases List.mem_cons.1 hz with rfl | hz
    · exact h.1.1
    · exact ris_in r _ h.2 z hz
theorem au_ok {a : AuM} (h : auB a = true) : (1 ≤ a.s ∧ a.s ≤ 24) ∧ (0 ≤ a.q ∧ a.q < a.s) ∧ (∀ z ∈ a.fin, 0 ≤ z ∧ z < a.s) ∧ (a.nx.length : Int) = a.s ∧ ∀ r ∈ a.nx, r.length = 4 ∧ ∀ z ∈ r, 0 ≤ z ∧ z < a.s := by
  simp only [auB, Bool.and_eq_true] at h
  obtain ⟨h1, h2⟩ := h
  obtain ⟨s1, s2, q1, q2, hl, hr⟩ := mch_ok h1
  have e : w1 a.s = a.s - 1 := IntWalk.i64_in _ (by omega)
  rw [e] at h2
  exact ⟨⟨s1, s2⟩, ⟨q1, q2⟩, fun z hz => by have := ris_in _ _ h2 z hz; omega, hl, hr⟩
theorem spl_nuT : ∀ (l : List Int) (w : List UInt8), (32 : UInt8) ∉ w → spl 32 (w ++ nuT l) = w :: l.map fun n => Lib.decDigits n.toNat
  | [], w, h => by
    show spl 32 (w ++ []) = [w]
    rw [List.append_nil, spl_none h]
  | n :: r, w, h => by
    have e : w ++ nuT (n :: r) = w ++ 32 :: (Lib.decDigits n.toNat ++ nuT r) := by unfold nuT; rw [List.flatMap_cons, List.cons_append]
    rw [e, spl_cut _ h, spl_nuT r _ (dec_not (by decide))]
    rfl
theorem nuT_not {c : UInt8} (hc : c.toNat < 32) : ∀ (l : List Int), c ∉ nuT l
  | [], h => by cases h
  | n :: r, h => by
    unfold nuT at h
    rw [List.flatMap_cons, List.cons_append] at h
    rcases List.mem_cons.1 h with rfl | h
    · exact absurd hc (by decide)
    · rcases List.mem_append.1 h with h | h
      · exact dec_not (by omega) h
      · exact nuT_not hc r h
theorem num18_dec {n : Nat} (h : n ≤ 24) : num18 (Lib.decDigits n) = some (n : Int) := by
  have h1 := List.length_pos_iff.2 (dec_ne n)
  have h2 := dec_len 1 n (by omega)
  have h3 := dec_nuS n
  unfold num18
  rw [if_neg, h3, if_neg (by omega)]
  rintro (h4 | h4 | ⟨h4, h5⟩)
  · omega
  · omega
  · rw [Lib.decDigits] at h4 h5
    split at h4
    · rename_i h6
      rw [dif_pos h6] at h5
      simp at h5
    · rename_i h6
      have h7 : n / 10 < 10 := by omega
      rw [Lib.decDigits, dif_pos h7] at h4
      have h8 : UInt8.ofNat (48 + n / 10) = 48 := h4
      have h9 := congrArg UInt8.toNat h8
      rw [UInt8.toNat_ofNat'] at h9
      have h10 : (48 : UInt8).toNat = 48 := rfl
      omega
theorem nb_line {w : List UInt8} (hw : (32 : UInt8) ∉ w) {l : List Int} (hl : ∀ z ∈ l, 0 ≤ z ∧ z ≤ 24) : nbI (lineW w l) = l ∧ nbS (lineW w l) = l := by
  unfold nbI nbS lineW
  rw [spl_nuT l w hw, List.drop_one, List.tail_cons, List.map_map, List.map_map]
  constructor
  · conv => rhs; rw [← List.map_id l]
    refine List.map_congr_left fun z hz => ?_
    have := hl z hz
    show pI (Lib.decDigits z.toNat) = z
    rw [pI_dec (by omega)]; omega
  · conv => rhs; rw [← List.map_id l]
    refine List.map_congr_left fun z hz => ?_
    have := hl z hz
    show (num18 (Lib.decDigits z.toNat)).getD (-1) = z
    rw [num18_dec (by omega)]
    show ((z.toNat : Nat) : Int) = z
    omega
theorem line_not {w : List UInt8} (hw : (10 : UInt8) ∉ w) (l : List Int) : (10 : UInt8) ∉ lineW w l := fun h => by
  rcases List.mem_append.1 h with h | h
  · exact hw h
  · exact nuT_not (by decide) l h
theorem spl_states : ∀ (nx : List (List Int)), spl 10 (nx.flatMap fun r => lineW stateW r ++ [10]) = nx.map (lineW stateW) ++ [[]]
  | [] => rfl
  | r :: t => by
    have e : ((r :: t).flatMap fun r => lineW stateW r ++ [10]) = lineW stateW r ++ 10 :: (t.flatMap fun r => lineW stateW r ++ [10]) := by rw [List.flatMap_cons, List.append_assoc]; rfl
    rw [e, spl_cut _ (line_not (by decide) r), spl_states t]
    rfl
theorem spl_auT (a : AuM) : spl 10 (auT a) = lineW autoW [a.s, a.q] :: lineW finsW a.fin :: (a.nx.map (lineW stateW) ++ [[]]) := by
  have e : auT a = lineW autoW [a.s, a.q] ++ 10 :: (lineW finsW a.fin ++ 10 :: (a.nx.flatMap fun r => lineW stateW r ++ [10])) := by unfold auT; simp
  rw [e, spl_cut _ (line_not (by decide) _), spl_cut _ (line_not (by decide) _), spl_states]
theorem read_auto {a : AuM} (h : auB a = true) : rdAI (spl 10 (auT a)) = some a ∧ rdAS (spl 10 (auT a)) = a := by
  obtain ⟨⟨s1, s2⟩, ⟨q1, q2⟩, hf, hl, hr⟩ := au_ok h
  obtain ⟨i0, r0⟩ := nb_line (w := autoW) (by decide) (l := [a.s, a.q]) (by intro z hz; simp only [List.mem_cons, List.not_mem_nil, or_false] at hz; omega)
  obtain ⟨i1, r1⟩ := nb_line (w := finsW) (by decide) (l := a.fin) (by intro z hz; have := hf z hz; omega)
  have i2 : (a.nx.map (lineW stateW)).map nbI = a.nx ∧ (a.nx.map (lineW stateW)).map nbS = a.nx := by
    rw [List.map_map, List.map_map]
    constructor
    · conv => rhs; rw [← List.map_id a.nx]
      exact List.map_congr_left fun r hm => (nb_line (w := stateW) (by decide) (l := r) (by intro z hz; have := (hr r hm).2 z hz; omega)).1
    · conv => rhs; rw [← List.map_id a.nx]
      exact List.map_congr_left fun r hm => (nb_line (w := stateW) (by decide) (l := r) (by intro z hz; have := (hr r hm).2 z hz; omega)).2
  rw [spl_auT]
  have hd : ((lineW autoW [a.s, a.q] :: lineW finsW a.fin :: (a.nx.map (lineW stateW) ++ [[]])).drop 2).dropLast = a.nx.map (lineW stateW) := by
    show (a.nx.map (lineW stateW) ++ [[]]).dropLast = _
    rw [List.dropLast_concat]
  have hlen : ¬ (lineW autoW [a.s, a.q] :: lineW finsW a.fin :: (a.nx.map (lineW stateW) ++ [[]])).length < 3 := by simp
  constructor
  · unfold rdAI
    rw [hd, i2.1, if_neg]
    · show some (AuM.mk ((nbI (lineW autoW [a.s, a.q])).getD 0 0) ((nbI (lineW autoW [a.s, a.q])).getD 1 0) (nbI (lineW finsW a.fin)) a.nx) = some a
      rw [i0, i1]
      rfl
    · rintro (h | h)
      · exact hlen h
      · exact h (show (nbI (lineW autoW [a.s, a.q])).length = 2 by rw [i0]; rfl)
  · unfold rdAS
    rw [hd, i2.2, if_neg hlen]
    show AuM.mk ((nbS (lineW autoW [a.s, a.q]) ++ [-1, -1]).getD 0 0) ((nbS (lineW autoW [a.s, a.q]) ++ [-1, -1]).getD 1 0) (nbS (lineW finsW a.fin)) a.nx = a
    rw [r0, r1]
    rfl
theorem ans_same (s : ByteArray) : ansI s = ansS s := by
  unfold ansI ansS
  split
  · rfl
  generalize hs : s.data.toList = t
  by_cases h : auB (rdAS (spl 10 t)) = true ∧ auT (rdAS (spl 10 t)) = t
  · have h1 := (read_auto h.1).1
    rw [h.2] at h1
    rw [if_pos h, h1]
    show (if _ then _ else _) = _
    rw [if_pos h]
  · rw [if_neg h]
    rcases hr : rdAI (spl 10 t) with _ | a
    · rfl
    · show (if _ then _ else _) = _
      rw [if_neg]
      rintro ⟨h1, h2⟩
      have h3 := (read_auto h1).2
      rw [h2] at h3
      rw [h3] at h
      exact h ⟨h1, h2⟩
end Go.Proofs.YtcpofhjoblgmgaaDoor
