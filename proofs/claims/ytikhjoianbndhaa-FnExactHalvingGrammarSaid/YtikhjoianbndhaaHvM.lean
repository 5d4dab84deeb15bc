/-
  The grammar in which every word that is met is halved: the plain part.
-/
import Derived.Test.YtikhjoianbndhaaPhgI
namespace Go.Proofs.Ytikhjoianbndhaa

structure HvS where
  ws : List ByteArray
  rs : List Fac
def hvL (s : ByteArray) : ByteArray := s.extract 0 ((s.size + 1) / 2)
def hvR (s : ByteArray) : ByteArray := s.extract ((s.size + 1) / 2) s.size
theorem hvL_size (s : ByteArray) : (hvL s).size = (s.size + 1) / 2 := by unfold hvL; rw [ByteArray.size_extract]; omega
theorem hvR_size (s : ByteArray) : (hvR s).size = s.size - (s.size + 1) / 2 := by unfold hvR; rw [ByteArray.size_extract]; omega
def hv (s : ByteArray) (st : HvS) : HvS :=
  if memS s st.ws = true then st
  else if 1 < s.size then
    ⟨(hv (hvR s) (hv (hvL s) st)).ws ++ [s], (hv (hvR s) (hv (hvL s) st)).rs ++ [⟨⟨#[]⟩, findS (hvL s) (hv (hvL s) st).ws 0, findS (hvR s) (hv (hvR s) (hv (hvL s) st)).ws 0⟩]⟩
  else ⟨st.ws ++ [s], st.rs ++ [⟨s, 0, 0⟩]⟩
termination_by s.size
decreasing_by all_goals (first | rw [hvL_size] | rw [hvR_size]); omega
theorem hv_old {s : ByteArray} {st : HvS} (h : s ∈ st.ws) : hv s st = st := by rw [hv, if_pos (memS_iff.2 h)]
theorem hv_pair {s : ByteArray} {st : HvS} (h : s ∉ st.ws) (h1 : 1 < s.size) : hv s st = ⟨(hv (hvR s) (hv (hvL s) st)).ws ++ [s], (hv (hvR s) (hv (hvL s) st)).rs ++ [⟨⟨#[]⟩, findS (hvL s) (hv (hvL s) st).ws 0, findS (hvR s) (hv (hvR s) (hv (hvL s) st)).ws 0⟩]⟩ := by
  rw [hv, if_neg (fun e => h (memS_iff.1 e)), if_pos h1]
theorem hv_one {s : ByteArray} {st : HvS} (h : s ∉ st.ws) (h1 : ¬ 1 < s.size) : hv s st = ⟨st.ws ++ [s], st.rs ++ [⟨s, 0, 0⟩]⟩ := by
  rw [hv, if_neg (fun e => h (memS_iff.1 e)), if_neg h1]
structure HvI (st : HvS) : Prop where
  len : st.rs.length = st.ws.length
  wf : WF st.rs
  val : ∀ k w, st.ws[k]? = some w → lenV st.rs k = w.size
  small : ∀ w ∈ st.ws, w.size ≤ 2000
def WordOk (s : ByteArray) : Prop := 0 < s.size ∧ s.size ≤ 2000 ∧ ∀ c ∈ s.data.toList, letB c = true
theorem wordOk_part {s : ByteArray} (h : WordOk s) {a b : Nat} (h0 : 0 < (s.extract a b).size) : WordOk (s.extract a b) := by
  refine ⟨h0, ?_, fun c hc => h.2.2 c (extract_mem hc)⟩
  have := h.2.1
  rw [ByteArray.size_extract]; omega
theorem findS_lt {t : ByteArray} {ws : List ByteArray} (h : t ∈ ws) : 0 ≤ findS t ws 0 ∧ findS t ws 0 < ws.length ∧ ws[(findS t ws 0).toNat]? = some t := by
  obtain ⟨j, h1, h2⟩ := findS_at t ws 0 h
  have h3 := (List.getElem?_eq_some_iff.1 h2).1
  rw [h1]
  refine ⟨by omega, by omega, ?_⟩
  rw [show ((0 : Int) + (j : Int)).toNat = j by omega]; exact h2
theorem findS_end {t : ByteArray} : ∀ {ws : List ByteArray} {i : Int}, t ∉ ws → findS t (ws ++ [t]) i = i + ws.length
  | [], i, _ => by simp [findS]
  | x :: r, i, h => by
    simp only [List.cons_append, findS]
    rw [if_neg (fun e => h (by simp [e])), findS_end (fun e => h (by simp [e]))]
    simp; omega
theorem lenV_one (rs : List Fac) (s : ByteArray) (h : s.size = 1) : lenV (rs ++ [⟨s, 0, 0⟩]) rs.length = 1 := by
  unfold lenV
  exact full_let 0 lenF lenG (r := ⟨s, 0, 0⟩) (by simp) (show s.size ≠ 0 by omega)
/-- what one call does -/
structure HvD (s : ByteArray) (st st' : HvS) : Prop where
  i : HvI st'
  mem : s ∈ st'.ws
  ext : ∃ ex, st'.ws = st.ws ++ ex ∧ ∀ x ∈ ex, x.size ≤ s.size
  len : st'.rs.length + 1 ≤ st.rs.length + 2 * s.size
  grow : st.rs.length ≤ st'.rs.length
theorem hv_do : ∀ (n : Nat) (s : ByteArray) (st : HvS), s.size = n → WordOk s → HvI st → HvD s st (hv s st) := by
  intro n
  induction n using Nat.strongRecOn with
  | ind n ih =>
    intro s st hn hw hi
    by_cases hm : s ∈ st.ws
    · rw [hv_old hm]
      exact ⟨hi, hm, ⟨[], by simp, by simp⟩, by have := hw.1; omega, by omega⟩
    by_cases h1 : 1 < s.size
    · have eL := hvL_size s
      have eR := hvR_size s
      have wL : WordOk (hvL s) := wordOk_part hw (show 0 < (hvL s).size by omega)
      have wR : WordOk (hvR s) := wordOk_part hw (show 0 < (hvR s).size by omega)
      have dL := ih (hvL s).size (by omega) (hvL s) st rfl wL hi
      have dR := ih (hvR s).size (by omega) (hvR s) (hv (hvL s) st) rfl wR dL.i
      rw [hv_pair hm h1]
      generalize hv (hvL s) st = s1 at *
      generalize hv (hvR s) s1 = s2 at *
      obtain ⟨ex1, e1, x1⟩ := dL.ext
      obtain ⟨ex2, e2, x2⟩ := dR.ext
      have fL := findS_lt dL.mem
      have fR := findS_lt dR.mem
      have l1 := dL.i.len
      have l2 := dR.i.len
      have g2 := dR.grow
      have aL : s2.ws[(findS (hvL s) s1.ws 0).toNat]? = some (hvL s) := by rw [e2, List.getElem?_append_left (by omega)]; exact fL.2.2
      have vL := dR.i.val _ _ aL
      have vR := dR.i.val _ _ fR.2.2
      have hne : s ∉ s2.ws := by
        rw [e2, e1]
        intro h
        rcases List.mem_append.1 h with h | h
        · rcases List.mem_append.1 h with h | h
          · exact hm h
          · have := x1 s h; omega
        · have := x2 s h; omega
      have hnew := lenV_new s2.rs (findS (hvL s) s1.ws 0) (findS (hvR s) s2.ws 0)
      refine ⟨⟨?_, ?_, ?_, ?_⟩, by simp, ⟨ex1 ++ ex2 ++ [s], by rw [e2, e1]; simp, ?_⟩, ?_, ?_⟩
      · simp [l2]
      · exact wf_snoc dR.i.wf ⟨fL.1, by omega⟩ ⟨fR.1, by omega⟩
      · intro k w hk
        show lenV (s2.rs ++ _) k = _
        by_cases hk' : k < s2.ws.length
        · rw [List.getElem?_append_left hk'] at hk
          rw [lenV_old _ _ (by omega)]
          exact dR.i.val k w hk
        · have hk2 : k = s2.ws.length := by
            have := (List.getElem?_eq_some_iff.1 hk).1
            simp at this; omega
          subst hk2
          simp at hk
          subst hk
          rw [← l2, hnew, vL, vR, eL, eR]; omega
      · intro w hw'
        rcases List.mem_append.1 hw' with h | h
        · exact dR.i.small w h
        · obtain rfl : w = s := by simpa using h
          exact hw.2.1
      · intro x hx
        rcases List.mem_append.1 hx with h | h
        · rcases List.mem_append.1 h with h | h
          · have := x1 x h; omega
          · have := x2 x h; omega
        · obtain rfl : x = s := by simpa using h
          omega
      · have := dL.len; have := dR.len
        simp; omega
      · have := dL.grow
        simp; omega
    · rw [hv_one hm h1]
      have h0 := hw.1
      have hs1 : s.size = 1 := by omega
      have l0 := hi.len
      refine ⟨⟨by simp [l0], ?_, ?_, ?_⟩, by simp, ⟨[s], rfl, fun x hx => ?_⟩, by simp; omega, by simp⟩
      · intro k r hr
        by_cases hk' : k < st.rs.length
        · rw [List.getElem?_append_left hk'] at hr; exact hi.wf k r hr
        · have hk2 : k = st.rs.length := by
            have := (List.getElem?_eq_some_iff.1 hr).1
            simp at this; omega
          subst hk2
          simp at hr
          subst hr
          obtain ⟨c, rfl⟩ := one_byte hs1
          exact .inr ⟨c, hw.2.2 c (by simp), rfl, rfl, rfl⟩
      · intro k w hk
        show lenV (st.rs ++ _) k = _
        by_cases hk' : k < st.ws.length
        · rw [List.getElem?_append_left hk'] at hk
          rw [lenV_old _ _ (by omega)]
          exact hi.val k w hk
        · have hk2 : k = st.ws.length := by
            have := (List.getElem?_eq_some_iff.1 hk).1
            simp at this; omega
          subst hk2
          simp at hk
          subst hk
          rw [← l0, lenV_one _ _ hs1, hs1]; rfl
      · intro w hw'
        rcases List.mem_append.1 hw' with h | h
        · exact hi.small w h
        · obtain rfl : w = s := by simpa using h
          exact hw.2.1
      · obtain rfl : x = s := by simpa using hx
        omega
theorem hvI_nil : HvI ⟨[], []⟩ := ⟨rfl, wf_nil, by simp, by simp⟩
/-- all rules of a word -/
def hvG (s : ByteArray) : List Fac := if s.size = 0 then [] else (hv s ⟨[], []⟩).rs
theorem hvG_ok {s : ByteArray} (ho : okW s = true) : WF (hvG s) ∧ (hvG s).length ≤ 4000 ∧ ∀ k, k < (hvG s).length → lenV (hvG s) k ≤ 2000 := by
  unfold hvG
  split
  · exact ⟨wf_nil, by simp, by simp⟩
  · rename_i h0
    have hw : WordOk s := ⟨by omega, okW_len2 ho, by
      unfold okW at ho
      simp only [Bool.and_eq_true, List.all_eq_true] at ho
      exact ho.2⟩
    have d := hv_do s.size s ⟨[], []⟩ rfl hw hvI_nil
    have hl := d.len
    have h2 := hw.2.1
    simp only [List.length_nil] at hl
    refine ⟨d.i.wf, by omega, fun k hk => ?_⟩
    have hk2 : k < (hv s ⟨[], []⟩).ws.length := by rw [← d.i.len]; exact hk
    have e : (hv s ⟨[], []⟩).ws[k]? = some ((hv s ⟨[], []⟩).ws[k]) := List.getElem?_eq_getElem hk2
    rw [d.i.val k _ e]
    have := d.i.small _ (List.mem_of_getElem? e)
    omega
theorem hvG_gok {s : ByteArray} (ho : okW s = true) (h : (hvG s).length ≤ 400) : (gOk (hvG s)).isSome = true := by
  obtain ⟨h1, _, h3⟩ := hvG_ok ho
  unfold gOk
  rw [if_neg (by omega)]
  have := gLens_of h1 (fun k hk => by have := h3 k hk; unfold lenV at this; omega) (hvG s).length 0 (by omega)
  rw [List.drop_zero] at this
  exact this
end Go.Proofs.Ytikhjoianbndhaa
