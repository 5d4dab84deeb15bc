/-
  Texts of this claim, merged: CoW CoN SamG Pieces PcsK BldK UnM Unp UnwB Cln WdT WdW TabY TabT.
-/
import Derived.Test.YtmdmgndhapdmgaaGreatP7
import Derived.Deep.RegionHeld3
import Derived.Laws.EntriesVeiled
import Derived.Lib.OthersKept
import Derived.Lib.Builder
import Derived.Lib.AppendStr
import Derived.Lib.UnsafeStr
import Derived.Laws.Externs
import Derived.Test.YtmdmgndhapdmgaaGreatShelf


/-
  The word of a coded grammar is the code of the word. Plain.
-/
namespace Go.Proofs.YtmdmgndhapdmgaaGreat
open Go.RowKit

section
variable {n S : Nat} {T : List (List Bool)} {M : List (List Int)} {Q : Nat → Nat → Prop}
theorem metI_q {a b : Nat} (ha : a < n) (hb : b < n) (hm : StL S (M.getD a [])) : ∀ (v : List Bool) (s : Nat) (T : List (List Bool)), Sh n S T → s + v.length = S → (∀ j t, getB T j t = true → Q j t) → (∀ t, v[t]? = some true → Q a (s + t) ∧ Q b (((M.getD a []).getD (s + t) 0).toNat)) →
    ∀ j t, getB (metI M a b v s T) j t = true → Q j t
  | [], _, _, _, _, hq, _ => hq
  | x :: v, s, T, h, hs, hq, hv => by
    rw [List.length_cons] at hs
    rw [metI]
    have hz : ((M.getD a []).getD s 0).toNat < S := by
      obtain ⟨t, e, ht⟩ := hm.at_ (show s < S by omega)
      rw [List.getD_eq_getElem?_getD, e]
      show ((t : Int)).toNat < S
      rw [Int.toNat_natCast]; exact ht
    refine metI_q ha hb hm v (s + 1) _ ?_ (by omega) ?_ (fun t ht => ?_)
    · split
      · exact (h.put ha).put hb
      · exact h
    · intro j t hj
      by_cases hx : x = true
      · rw [if_pos hx] at hj
        have hv0 := hv 0 (by simp [hx])
        rw [Nat.add_zero] at hv0
        unfold metP at hj
        rw [getB_put (h.put ha) hb hz] at hj
        split at hj
        · rename_i e; rw [e.1, e.2]; exact hv0.2
        · rw [getB_put h ha (by omega)] at hj
          split at hj
          · rename_i e; rw [e.1, e.2]; exact hv0.1
          · exact hq j t hj
      · rw [if_neg hx] at hj
        exact hq j t hj
    · have := hv (t + 1) (by simpa using ht)
      rw [show s + (t + 1) = s + 1 + t by omega] at this
      exact this
theorem metD_q {rs : List Fac} (hwf : WF rs) (hM : ∀ k, k < rs.length → StL S (M.getD k [])) (hp : ∀ (i : Nat) (r : Fac), rs[i]? = some r → r.l.size = 0 → ∀ s, s < S → Q i s → Q r.a.toNat s ∧ Q r.b.toNat (((M.getD r.a.toNat []).getD s 0).toNat)) :
    ∀ (i : Nat) (T : List (List Bool)), i ≤ rs.length → Sh rs.length S T → (∀ j t, getB T j t = true → Q j t) → ∀ j t, getB (metD M rs i T) j t = true → Q j t
  | 0, _, _, _, hq => hq
  | i + 1, T, hi, h, hq => by
    rw [metD]
    have gx : rs[i]? = some (rs[i]'(by omega)) := List.getElem?_eq_getElem _
    have e : rs.getD i ⟨⟨#[]⟩, 0, 0⟩ = rs[i]'(by omega) := by rw [List.getD_eq_getElem?_getD, gx]; rfl
    rw [e]
    rcases hwf i _ gx with ⟨h0, a0, a1, b0, b1⟩ | ⟨c, _, hl, _⟩
    · have e1 : metR M (rs[i]'(by omega)) i T = metI M (rs[i]'(by omega)).a.toNat (rs[i]'(by omega)).b.toNat (T.getD i []) 0 T := by unfold metR; rw [if_pos h0]
      rw [e1]
      obtain ⟨v, hv, lv⟩ := h.at_ (show i < rs.length by omega)
      have ev : T.getD i [] = v := by rw [List.getD_eq_getElem?_getD, hv]; rfl
      rw [ev]
      have ha : (rs[i]'(by omega)).a.toNat < rs.length := by omega
      have hb : (rs[i]'(by omega)).b.toNat < rs.length := by omega
      refine metD_q hwf hM hp i _ (by omega) (metI_ok (M := M) ha hb (hM _ ha) v 0 T h (by omega)).1 (metI_q ha hb (hM _ ha) v 0 T h (by omega) hq fun t ht => ?_)
      rw [Nat.zero_add]
      have hts : t < S := by have := (List.getElem?_eq_some_iff.1 ht).1; omega
      refine hp i _ gx h0 t hts (hq i t ?_)
      unfold getB
      rw [ev, List.getD_eq_getElem?_getD, ht]; rfl
    · have e1 : metR M (rs[i]'(by omega)) i T = T := by unfold metR; rw [if_neg (by rw [hl]; show ¬ (1 : Nat) = 0; omega)]
      rw [e1]
      exact metD_q hwf hM hp i T (by omega) h hq
theorem getB_met00 {n S j t : Nat} : getB (met00 n S) j t = false := by
  unfold getB met00
  have e : ∀ m : Nat, (List.replicate m false).getD t false = false := fun m => by
    rw [List.getD_eq_getElem?_getD, List.getElem?_replicate]
    split <;> rfl
  rcases Nat.lt_or_ge j n with h | h
  · have e1 : (List.replicate n (List.replicate S false)).getD j [] = List.replicate S false := by rw [List.getD_eq_getElem?_getD, List.getElem?_replicate, if_pos h]; rfl
    rw [e1, e]
  · have e1 : (List.replicate n (List.replicate S false)).getD j [] = [] := by rw [List.getD_eq_getElem?_getD, List.getElem?_replicate, if_neg (by omega)]; rfl
    rw [e1]; rfl
theorem metT_q {rs : List Fac} (hwf : WF rs) (hM : ∀ k, k < rs.length → StL S (M.getD k [])) (h0 : rs.length ≠ 0) {q : Nat} (hq : q < S) (hp : ∀ (i : Nat) (r : Fac), rs[i]? = some r → r.l.size = 0 → ∀ s, s < S → Q i s → Q r.a.toNat s ∧ Q r.b.toNat (((M.getD r.a.toNat []).getD s 0).toNat)) (hQ : Q (rs.length - 1) q) :
    ∀ j t, getB (metT M rs S q) j t = true → Q j t := by
  have hS0 := met00_sh rs.length S
  refine metD_q hwf hM hp rs.length _ (Nat.le_refl _) (hS0.put (i := rs.length - 1) (s := q) (by omega)) (fun j t hj => ?_)
  rw [getB_put hS0 (by omega) hq] at hj
  split at hj
  · rename_i e; rw [e.1, e.2]; exact hQ
  · rw [getB_met00] at hj; cases hj
end
/-- a rule of 'out' that stands for a word, or none for no word -/
def Vok (out : List Fac) (z : Int) (u : List Nat) : Prop := (z < 0 → u = []) ∧ (0 ≤ z → (wds out).getD z.toNat [] = u)
/-- no word is too long -/
def Wlen (out : List Fac) : Prop := ∀ p, p < out.length → ((wds out).getD p []).length ≤ 1000000000000000
theorem Vok.more {out : List Fac} {z : Int} {u : List Nat} (h : Vok out z u) (hz : z < out.length) (e : List Fac) : Vok (out ++ e) z u := ⟨h.1, fun h0 => by rw [wds_pre _ _ (by omega)]; exact h.2 h0⟩
theorem prM_vok {out : List Fac} {x y : Int} {u v : List Nat} (hw : WF out) (x1 : x < out.length) (y1 : y < out.length) (hx : Vok out x u) (hy : Vok out y v) (hl : Wlen out) (huv : (u ++ v).length ≤ 1000000000000000) :
    Vok (prM out x y).1 (prM out x y).2 (u ++ v) ∧ (∃ e, (prM out x y).1 = out ++ e) ∧ Wlen (prM out x y).1 := by
  unfold prM
  split
  · rename_i h
    refine ⟨?_, ⟨[], by simp⟩, hl⟩
    rw [hx.1 h, List.nil_append]; exact hy
  · rename_i h
    split
    · rename_i h2
      refine ⟨?_, ⟨[], by simp⟩, hl⟩
      rw [hy.1 h2, List.append_nil]; exact hx
    · rename_i h2
      have hs := wds_snoc (rs := out) (a := x) (b := y) ⟨by omega, x1⟩ ⟨by omega, y1⟩ hw
      rw [hx.2 (by omega), hy.2 (by omega)] at hs
      refine ⟨⟨fun h3 => ?_, fun _ => ?_⟩, ⟨_, rfl⟩, fun p hp => ?_⟩
      · exfalso
        have h3 : (out.length : Int) < 0 := h3
        omega
      · show (wds (out ++ [⟨⟨#[]⟩, x, y⟩])).getD ((out.length : Int)).toNat [] = _
        rw [Int.toNat_natCast]; exact hs
      · have hp : p < (out ++ [(⟨⟨#[]⟩, x, y⟩ : Fac)]).length := hp
        rw [List.length_append, List.length_singleton] at hp
        show ((wds (out ++ [⟨⟨#[]⟩, x, y⟩])).getD p []).length ≤ _
        by_cases e : p < out.length
        · rw [wds_pre _ _ e]; exact hl p e
        · obtain rfl : p = out.length := by omega
          rw [hs]; exact huv
theorem wdM_vok {out : List Fac} {w : ByteArray} (hw : WF out) (ho : okW w = true) (h6 : w.size ≤ 6) (hl : Wlen out) : Vok (wdM out w).1 (wdM out w).2 (nums w) ∧ (∃ e, (wdM out w).1 = out ++ e) ∧ Wlen (wdM out w).1 := by
  unfold wdM
  split
  · rename_i h0
    exact ⟨⟨fun _ => nums_nil.2 h0, fun h => absurd h (by show ¬ (0 : Int) ≤ -1; omega)⟩, ⟨[], by simp⟩, hl⟩
  · rename_i h0
    obtain ⟨hlt, _⟩ := okW_let ho
    have hne : w.data.toList ≠ [] := fun e => h0 (by rw [← byte_len, e]; rfl)
    have h2 := plainL_pos hne hlt
    have h3 := plainL_len w.data.toList
    rw [byte_len] at h3
    have hwp := wf_plain hlt
    refine ⟨⟨fun h => ?_, fun _ => ?_⟩, ⟨_, rfl⟩, fun p hp => ?_⟩
    · exfalso
      have h : ((out.length + (plainL w.data.toList).length : Nat) : Int) - 1 < 0 := h
      omega
    · show (wds (out ++ raiseL (out.length : Int) (plainL w.data.toList))).getD ((((out.length + (plainL w.data.toList).length : Nat) : Int) - 1).toNat) [] = _
      rw [show ((((out.length + (plainL w.data.toList).length : Nat) : Int) - 1).toNat) = out.length + ((plainL w.data.toList).length - 1) by omega, wds_raise hw hwp _ (by omega), plain_word hlt hne]; rfl
    · have hp : p < (out ++ raiseL (out.length : Int) (plainL w.data.toList)).length := hp
      rw [List.length_append, raiseL_len] at hp
      show ((wds (out ++ raiseL (out.length : Int) (plainL w.data.toList))).getD p []).length ≤ _
      by_cases e : p < out.length
      · rw [wds_pre _ _ e]; exact hl p e
      · obtain ⟨j, rfl⟩ : ∃ j, p = out.length + j := ⟨p - out.length, by omega⟩
        rw [wds_raise hw hwp _ (by omega)]
        have h4 := wds_pow hwp j (by omega)
        have h5 : 2 ^ j ≤ 2 ^ 10 := Nat.pow_le_pow_right (by omega) (by omega)
        have h6 : (2 : Nat) ^ 10 ≤ 1000000000000000 := by decide
        omega
section
variable {nx : List (List Int)} {ot : List (List ByteArray)} {S : Nat} {rs : List Fac} {mt : List (List Bool)}
/-- the stands of the rules so far -/
def DoneW (nx : List (List Int)) (ot : List (List ByteArray)) (S : Nat) (rs : List Fac) (mt : List (List Bool)) (i : Nat) (out : List Fac) (st : List (List Int)) : Prop :=
  ∀ j, j < i → ∀ s, s < S → getB mt j s = true → Vok out ((st.getD j []).getD s 0) (coW nx ot s ((wds rs).getD j []))
theorem PlL.getD_lt {len : Nat} {v : List Int} (h : PlL S len v) {s : Nat} (hs : s < S) : v.getD s 0 < (len : Int) := by
  obtain ⟨z, e, _, h1⟩ := h.at_ hs
  rw [List.getD_eq_getElem?_getD, e]; exact h1
theorem DoneW.more {i : Nat} {out : List Fac} {st : List (List Int)} (h : DoneW nx ot S rs mt i out st) (hl : st.length = i) (hr : ∀ v ∈ st, PlL S out.length v) (e : List Fac) : DoneW nx ot S rs mt i (out ++ e) st := fun j hj s hs hb => by
  have gx : st[j]? = some (st[j]'(by omega)) := List.getElem?_eq_getElem _
  have e1 : st.getD j [] = st[j]'(by omega) := by rw [List.getD_eq_getElem?_getD, gx]; rfl
  have h1 := h j hj s hs hb
  rw [e1] at h1 ⊢
  exact h1.more ((hr _ (List.getElem_mem (by omega))).getD_lt hs) e
theorem stM_vok (hx : NxOk S nx) (ho : OtOk S ot) (hwf : WF rs) (hcl : ∀ j, j < rs.length → Cls (maps nx rs) rs S mt j) (hlen : ∀ j s, getB mt j s = true → s < S → (coW nx ot s ((wds rs).getD j [])).length ≤ 1000000000000000) {i s : Nat} {r : Fac} {out : List Fac} {st : List (List Int)} {acc : List Int} (hr : rs[i]? = some r) (hs : s < S)
    (hI : RwI S i st s out acc) (hD : DoneW nx ot S rs mt i out st) (hl : Wlen out) (b : Bool) (hb : b = true → getB mt i s = true) :
    (b = true → Vok (stM ot (maps nx rs) st r s b out).1 (stM ot (maps nx rs) st r s b out).2 (coW nx ot s ((wds rs).getD i []))) ∧ (∃ e, (stM ot (maps nx rs) st r s b out).1 = out ++ e) ∧ Wlen (stM ot (maps nx rs) st r s b out).1 := by
  cases b
  · exact ⟨fun h => absurd h (by decide), ⟨[], by simp [stM]⟩, hl⟩
  have hbi := hb rfl
  have hi : i < rs.length := (List.getElem?_eq_some_iff.1 hr).1
  have hM := maps_ok hx hwf
  rcases hwf i r hr with ⟨h0, a0, a1, b0, b1⟩ | ⟨c, hc, hlr, _⟩
  · obtain ⟨c1, c2⟩ := hcl i hi r hr h0 s hs hbi
    have hmw := maps_word hx hwf r.a.toNat (by omega) s hs
    obtain ⟨t, e0, ht⟩ := (hM r.a.toNat (by omega)).at_ hs
    have e1 : ((maps nx rs).getD r.a.toNat []).getD s 0 = (t : Int) := by
      generalize (maps nx rs).getD r.a.toNat [] = m at *
      rw [List.getD_eq_getElem?_getD, e0]; rfl
    rw [e1, Int.toNat_natCast] at c2
    have et : stW nx s ((wds rs).getD r.a.toNat []) = t := by rw [e1] at hmw; omega
    have v1 := hD r.a.toNat (by omega) s hs c1
    have v2 := hD r.b.toNat (by omega) t ht c2
    have es : stM ot (maps nx rs) st r s true out = prM out ((st.getD r.a.toNat []).getD s 0) ((st.getD r.b.toNat []).getD t 0) := by
      unfold stM
      rw [if_pos rfl, if_pos h0, e1, Int.toNat_natCast]
    have hrow : ∀ j, j < i → ∀ s, s < S → (st.getD j []).getD s 0 < (out.length : Int) := fun j hj s hs => by
      have gx : st[j]? = some (st[j]'(by rw [hI.len]; exact hj)) := List.getElem?_eq_getElem _
      have e1 : st.getD j [] = st[j]'(by rw [hI.len]; exact hj) := by rw [List.getD_eq_getElem?_getD, gx]; rfl
      rw [e1]
      exact (hI.row _ (List.getElem_mem _)).getD_lt hs
    have hw : (wds rs).getD i [] = (wds rs).getD r.a.toNat [] ++ (wds rs).getD r.b.toNat [] := wds_pair hwf hr h0
    have hlen' := hlen i s hbi hs
    rw [hw, coW_app, et] at hlen' ⊢
    rw [es]
    obtain ⟨p1, p2, p3⟩ := prM_vok hI.wf (hrow _ (by omega) s hs) (hrow _ (by omega) t ht) v1 v2 hl hlen'
    exact ⟨fun _ => p1, p2, p3⟩
  · have h0 : r.l.size ≠ 0 := by rw [hlr]; show (1 : Nat) ≠ 0; omega
    have hn := letB_num hc
    obtain ⟨row, t, e1, _, e2, hok, h6⟩ := ho.at_ hs (show c.toNat - 97 < 4 by omega)
    rw [stM_word h0 (show letN r.l = c.toNat - 97 by rw [hlr, letN_one]) e1 e2, wds_one hr hlr]
    obtain ⟨p1, p2, p3⟩ := wdM_vok hI.wf hok h6 hl
    refine ⟨fun _ => ?_, p2, p3⟩
    have f1 : ot.getD s [] = row := by rw [List.getD_eq_getElem?_getD, e1]; rfl
    have f2 : row.getD (c.toNat - 97) ⟨#[]⟩ = t := by rw [List.getD_eq_getElem?_getD, e2]; rfl
    rw [coW, coW, f1, f2, List.append_nil]
    exact p1
theorem rwM_vok (hS : S ≤ 24) (hx : NxOk S nx) (ho : OtOk S ot) (hwf : WF rs) (hcl : ∀ j, j < rs.length → Cls (maps nx rs) rs S mt j) (hlen : ∀ j s, getB mt j s = true → s < S → (coW nx ot s ((wds rs).getD j [])).length ≤ 1000000000000000) {i : Nat} {r : Fac} {st : List (List Int)} (hr : rs[i]? = some r) :
    ∀ (v : List Bool) (s : Nat) (out : List Fac) (acc : List Int), s + v.length = S → (∀ t, v[t]? = some true → getB mt i (s + t) = true) → RwI S i st s out acc → DoneW nx ot S rs mt i out st → Wlen out →
      (∀ t, t < s → getB mt i t = true → Vok out (acc.getD t 0) (coW nx ot t ((wds rs).getD i []))) → (∀ t, getB mt i (s + t) = true → t < v.length → v[t]? = some true) →
      DoneW nx ot S rs mt i (rwM ot (maps nx rs) st r v s out acc).1 st ∧ Wlen (rwM ot (maps nx rs) st r v s out acc).1 ∧ ∀ t, t < S → getB mt i t = true → Vok (rwM ot (maps nx rs) st r v s out acc).1 ((rwM ot (maps nx rs) st r v s out acc).2.getD t 0) (coW nx ot t ((wds rs).getD i []))
  | [], s, out, acc, hs, _, hI, hD, hl, ha, _ => by
    have : s = S := by simpa using hs
    subst this
    exact ⟨hD, hl, ha⟩
  | b :: v, s, out, acc, hs, hv, hI, hD, hl, ha, hv2 => by
    rw [List.length_cons] at hs
    have hM := maps_ok hx hwf
    have hi : i < rs.length := (List.getElem?_eq_some_iff.1 hr).1
    have hb : b = true → getB mt i s = true := fun hb => by
      have := hv 0 (by simp [hb])
      rwa [Nat.add_zero] at this
    obtain ⟨p1, ⟨e, pe⟩, p3⟩ := stM_vok hx ho hwf hcl hlen hr (show s < S by omega) hI hD hl b hb
    have hok := stM_ok (b := b) ho (fun j hj => hM j (by omega)) hI (show s < S by omega) (hwf i r hr)
    rw [rwM]
    generalize stM ot (maps nx rs) st r s b out = P at *
    obtain ⟨out', z⟩ := P
    have pe : out' = out ++ e := pe
    subst pe
    refine rwM_vok hS hx ho hwf hcl hlen hr v (s + 1) _ _ (by omega) (fun t ht => ?_) (hI.step hok) (hD.more hI.len hI.row e) p3 (fun t ht htb => ?_) (fun t ht htl => ?_)
    · have := hv (t + 1) (by simpa using ht)
      rwa [show s + (t + 1) = s + 1 + t by omega] at this
    · show Vok (out ++ e) ((acc ++ [z]).getD t 0) _
      rw [getD_snoc, hI.acc.1]
      by_cases h1 : t < s
      · rw [if_pos h1]
        exact (ha t h1 htb).more (hI.acc.getD_lt h1) e
      · obtain rfl : t = s := by omega
        rw [if_neg h1, if_pos rfl]
        have hbt : b = true := by
          have := hv2 0 (by rw [Nat.add_zero]; exact htb) (by simp)
          simpa using this
        exact p1 hbt
    · have := hv2 (t + 1) (by rw [show s + (t + 1) = s + 1 + t by omega]; exact ht) (by simp; omega)
      simpa using this
theorem mdM_vok (hS : S ≤ 24) (hx : NxOk S nx) (ho : OtOk S ot) (hwf : WF rs) (hmt : Sh rs.length S mt) (hcl : ∀ j, j < rs.length → Cls (maps nx rs) rs S mt j) (hlen : ∀ j s, getB mt j s = true → s < S → (coW nx ot s ((wds rs).getD j [])).length ≤ 1000000000000000) :
    ∀ (j k : Nat) (out : List Fac) (st : List (List Int)), k + j = rs.length → MdI S k out st → DoneW nx ot S rs mt k out st → Wlen out →
      DoneW nx ot S rs mt rs.length (mdM ot (maps nx rs) mt (rs.drop k) k out st).1 (mdM ot (maps nx rs) mt (rs.drop k) k out st).2 ∧ Wlen (mdM ot (maps nx rs) mt (rs.drop k) k out st).1
  | 0, k, out, st, hk, _, hD, hl => by
    have : k = rs.length := by omega
    subst this
    rw [List.drop_of_length_le (Nat.le_refl _)]
    exact ⟨hD, hl⟩
  | j + 1, k, out, st, hk, hI, hD, hl => by
    have gx : rs[k]? = some (rs[k]'(by omega)) := List.getElem?_eq_getElem _
    obtain ⟨v, ev, lv⟩ := hmt.at_ (i := k) (by omega)
    have hvD : mt.getD k [] = v := by rw [List.getD_eq_getElem?_getD, ev]; rfl
    have hgb : ∀ t, getB mt k t = v.getD t false := fun t => by unfold getB; rw [hvD]
    have hM := maps_ok hx hwf
    rw [drop_cons gx, mdM, hvD]
    have h1 := (rwM_ok (M := maps nx rs) ho (fun j hj => hM j (by omega)) (hwf k _ gx) v 0 out [] (by omega) hI.start).1
    obtain ⟨d1, d2, d3⟩ := rwM_vok hS hx ho hwf hcl hlen gx v 0 out [] (by omega) (fun t ht => by rw [Nat.zero_add, hgb, List.getD_eq_getElem?_getD, ht]; rfl) hI.start hD hl (fun t ht => by omega) (fun t ht htl => by
      rw [Nat.zero_add, hgb, List.getD_eq_getElem?_getD] at ht
      have hx : v[t]? = some (v[t]'htl) := List.getElem?_eq_getElem _
      rw [hx] at ht ⊢
      exact congrArg some ht)
    generalize rwM ot (maps nx rs) st (rs[k]'(by omega)) v 0 out [] = R at *
    refine mdM_vok hS hx ho hwf hmt hcl hlen j (k + 1) R.1 (st ++ [R.2]) (by omega) (h1.fin hS) (fun a ha s hs hb => ?_) d2
    rw [show (st ++ [R.2]).getD a [] = if a < k then st.getD a [] else R.2 from by
      rw [List.getD_eq_getElem?_getD]
      by_cases e : a < k
      · rw [if_pos e, List.getElem?_append_left (by rw [hI.len]; exact e), ← List.getD_eq_getElem?_getD]
      · rw [if_neg e, List.getElem?_append_right (by rw [hI.len]; omega), hI.len, show a - k = 0 by omega]; rfl]
    by_cases e : a < k
    · rw [if_pos e]; exact d1 a e s hs hb
    · obtain rfl : a = k := by omega
      rw [if_neg e]; exact d3 s hs hb
/-- the coded grammar, where it is told: valid, and its word is the code -/
theorem cg_word (hS : S ≤ 24) (hx : NxOk S nx) (ho : OtOk S ot) {ls : List Int} (hls : gLens rs [] = some ls) {q : Nat} (hq : q < S) (hC : (cgL nx ot S q rs).2 = 0) : (gOk (cgL nx ot S q rs).1).isSome = true ∧ wdN (cgL nx ot S q rs).1 = coW nx ot q (wdN rs) := by
  have hwf := wf_of hls
  by_cases h0 : rs.length = 0
  · obtain rfl := List.eq_nil_of_length_eq_zero h0
    exact ⟨rfl, rfl⟩
  have hM := maps_ok hx hwf
  have hcn := codN_code hx ho hls hq
  unfold cgL at hC ⊢
  rw [if_neg h0] at hC ⊢
  split at hC
  · cases hC
  · rename_i hn
    rw [if_neg hn]
    have hn1 : (mdA nx ot S q rs).1.length ≤ 400 := by
      have : ¬ 400 < (mdA nx ot S q rs).1.length := fun h => hn (.inl h)
      omega
    have hn2 : codN nx ot q rs ≤ 1000000000000000 := by
      have : ¬ 1000000000000000 < codN nx ot q rs := fun h => hn (.inr h)
      omega
    have hwn : wdN rs = (wds rs).getD (rs.length - 1) [] := by unfold wdN; rw [if_neg (fun e => h0 (by rw [e]; rfl))]
    obtain ⟨m1, m2⟩ := metT_ok (M := maps nx rs) hwf hM h0 hq
    have hlen := metT_q (M := maps nx rs) (Q := fun j s => s < S → (coW nx ot s ((wds rs).getD j [])).length ≤ 1000000000000000) hwf hM h0 hq (fun i r hr hr0 s hs hQ => by
      have h1 := hQ hs
      have hi : i < rs.length := (List.getElem?_eq_some_iff.1 hr).1
      rcases hwf i r hr with ⟨_, a0, a1, b0, b1⟩ | ⟨c, _, hlr, _⟩
      · have hmw := maps_word hx hwf r.a.toNat (by omega) s hs
        have et : (((maps nx rs).getD r.a.toNat []).getD s 0).toNat = stW nx s ((wds rs).getD r.a.toNat []) := by rw [hmw, Int.toNat_natCast]
        have hw : (wds rs).getD i [] = (wds rs).getD r.a.toNat [] ++ (wds rs).getD r.b.toNat [] := wds_pair hwf hr hr0
        rw [hw, coW_app, List.length_append] at h1
        rw [et]
        exact ⟨fun _ => by omega, fun _ => by omega⟩
      · rw [hlr] at hr0; cases hr0) (fun _ => by rw [← hwn]; omega)
    have hmd := mdM_vok (mt := metT (maps nx rs) rs S q) hS hx ho hwf (metT_sh hwf h0 q) m2 (fun j s hb hs => hlen j s hb hs) rs.length 0 [] [] (by omega) (mdI_nil S) (fun j hj => by omega) (fun p hp => by simp at hp)
    rw [List.drop_zero] at hmd
    have hmi := mdA_ok hS hx ho hwf h0 (q := q)
    have hroot : rootM nx ot S q rs = ((mdA nx ot S q rs).2.getD (rs.length - 1) []).getD q 0 := rfl
    have hv := hmd.1 (rs.length - 1) (by omega) q hq m1
    have hv : Vok (mdA nx ot S q rs).1 (((mdA nx ot S q rs).2.getD (rs.length - 1) []).getD q 0) (coW nx ot q ((wds rs).getD (rs.length - 1) [])) := hv
    have hwl : Wlen (mdA nx ot S q rs).1 := hmd.2
    rw [← hroot, ← hwn] at hv
    have hz : -1 ≤ rootM nx ot S q rs ∧ rootM nx ot S q rs < ((mdA nx ot S q rs).1.length : Int) := by
      obtain ⟨va, gva, pva⟩ := hmi.at_ (i := rs.length - 1) (by omega)
      obtain ⟨z, gz, z0, z1⟩ := pva.at_ hq
      have e1 : (mdA nx ot S q rs).2.getD (rs.length - 1) [] = va := by rw [List.getD_eq_getElem?_getD, gva]; rfl
      have e2 : va.getD q 0 = z := by rw [List.getD_eq_getElem?_getD, gz]; rfl
      rw [hroot, e1, e2]; exact ⟨z0, z1⟩
    generalize rootM nx ot S q rs = z at *
    have hw2 := hmi.wf
    generalize (mdA nx ot S q rs).1 = out at *
    show (gOk (trimL (out.take (z + 1).toNat))).isSome = true ∧ wdN (trimL (out.take (z + 1).toNat)) = _
    by_cases hz0 : z < 0
    · have e : (z + 1).toNat = 0 := by omega
      rw [e, List.take_zero, hv.1 hz0]
      exact ⟨rfl, rfl⟩
    · obtain ⟨k, rfl⟩ := Int.eq_ofNat_of_zero_le (show 0 ≤ z by omega)
      have hk : k < out.length := by omega
      have e : ((k : Int) + 1).toNat = k + 1 := by omega
      rw [e]
      have hv2 := hv.2 (by omega)
      rw [Int.toNat_natCast] at hv2
      have hwt := wf_take hw2 (k + 1)
      have hlt : (out.take (k + 1)).length = k + 1 := by rw [List.length_take]; omega
      obtain ⟨t1, t2, t3, t4⟩ := trim_word hwt (by omega)
      refine ⟨?_, ?_⟩
      · refine trim_ok hwt (fun p hp => ?_) (by omega)
        rw [wds_lens hwt hp, wds_take (by omega) (by omega)]
        have := hwl p (by omega)
        omega
      · rw [t4]
        unfold wdN
        rw [if_neg (fun e => by rw [e] at hlt; simp at hlt), hlt, Nat.add_sub_cancel, wds_take (by omega) (by omega)]
        exact hv2
end
end Go.Proofs.YtmdmgndhapdmgaaGreat


/-
  The code of a short word; the code number of a coded grammar. Plain.
-/
namespace Go.Proofs.YtmdmgndhapdmgaaGreat
open Go.RowKit

theorem cd_of {S q : Nat} {nx : List (List Int)} {ot : List (List ByteArray)} (hS : 1 ≤ S) (hS2 : S ≤ 24) (hq : q < S) (hx : NxOk S nx) (ho : OtOk S ot) : cdB (S : Int) (q : Int) nx ot = true := by
  have e : w1 (S : Int) = (S : Int) - 1 := IntWalk.i64_in _ (by omega)
  have h1 : mchB (S : Int) (q : Int) nx = true := by
    simp only [mchB, Bool.and_eq_true, inB, decide_eq_true_eq, List.all_eq_true]
    rw [e]
    refine ⟨⟨⟨⟨by omega, by omega⟩, by omega, by omega⟩, by rw [hx.len]⟩, fun r hr => ?_⟩
    have := hx.row r hr
    simp only [rowB, Bool.and_eq_true, decide_eq_true_eq, List.all_eq_true, inB]
    exact ⟨this.1, fun z hz => by have := this.2 z hz; omega⟩
  simp only [cdB, Bool.and_eq_true, decide_eq_true_eq, List.all_eq_true]
  refine ⟨⟨h1, by rw [ho.len]⟩, fun r hr => ?_⟩
  simp only [otRow, Bool.and_eq_true, decide_eq_true_eq, List.all_eq_true]
  exact ho.row r hr
theorem nums_txC (u : List Nat) (h : ∀ x ∈ u, x < 4) : (tx u).data.toList.map numC = u := by
  rw [tx_toList, txB, List.map_map]
  conv => rhs; rw [← List.map_id u]
  refine List.map_congr_left fun x hx => ?_
  have := h x hx
  show (UInt8.ofNat (97 + x)).toNat - 97 = x
  rw [UInt8.toNat_ofNat']; omega
theorem coW_len {nx : List (List Int)} {ot : List (List ByteArray)} {S : Nat} (h : NxOk S nx) (ho : OtOk S ot) : ∀ (u : List Nat) (s : Nat), s < S → (∀ x ∈ u, x < 4) → (coW nx ot s u).length ≤ 6 * u.length
  | [], _, _, _ => by simp [coW]
  | k :: u, s, hs, hu => by
    obtain ⟨r, t, h1, _, h2, _, h6⟩ := ho.at_ hs (hu k (by simp))
    have e1 : ot.getD s [] = r := by rw [List.getD_eq_getElem?_getD, h1]; rfl
    have e2 : r.getD k ⟨#[]⟩ = t := by rw [List.getD_eq_getElem?_getD, h2]; rfl
    have ih := coW_len h ho u _ (nextN_lt h hs (hu k (by simp))) (fun x hx => hu x (by simp [hx]))
    rw [coW, e1, e2, List.length_append, List.length_cons]
    unfold nums
    rw [List.length_map, byte_len]
    omega
/-- the code of a short word -/
theorem cwR_word {S q : Nat} {nx : List (List Int)} {ot : List (List ByteArray)} (hS : 1 ≤ S) (hS2 : S ≤ 24) (hq : q < S) (hx : NxOk S nx) (ho : OtOk S ot) {u : List Nat} (hu : ∀ x ∈ u, x < 4) (hl : u.length ≤ 300) : cwR (S : Int) (q : Int) nx ot (tx u) = (tx (coW nx ot q u), 0) := by
  have hw : okW (tx u) = true := by
    unfold okW
    rw [tx_let hu, Bool.and_true, decide_eq_true_eq, tx_size]; omega
  have e : coB nx ot q (tx u).data.toList = txB (coW nx ot q u) := by rw [coB_word hx ho _ _ hq (tx_let hu), nums_txC u hu]
  have hlen := coW_len hx ho u q hq hu
  unfold cwR
  rw [if_pos ⟨cd_of hS hS2 hq hx ho, hw⟩, Int.toNat_natCast, e, if_neg (by unfold txB; rw [List.length_map]; omega)]
  rfl
theorem cgR_code {S q : Nat} {nx : List (List Int)} {ot : List (List ByteArray)} (hS : 1 ≤ S) (hS2 : S ≤ 24) (hq : q < S) (hx : NxOk S nx) (ho : OtOk S ot) {rs : List Fac} (hg : (gOk rs).isSome = true) :
    cgR (S : Int) (q : Int) nx ot rs = cgL nx ot S q rs ∧ ((cgL nx ot S q rs).2 = 0 ∨ (cgL nx ot S q rs).2 = 3) ∧ ((cgL nx ot S q rs).2 = 0 → codN nx ot q rs ≤ 1000000000000000) := by
  refine ⟨by unfold cgR; rw [if_pos ⟨cd_of hS hS2 hq hx ho, hg⟩]; rfl, ?_, fun h => ?_⟩
  · unfold cgL
    split
    · exact .inl rfl
    · split
      · exact .inr rfl
      · exact .inl rfl
  · unfold cgL at h
    split at h
    · rename_i h0
      unfold codN
      rw [if_pos h0]; omega
    · split at h
      · cases h
      · rename_i h1
        have : ¬ 1000000000000000 < codN nx ot q rs := fun h => h1 (.inr h)
        omega
end Go.Proofs.YtmdmgndhapdmgaaGreat


/-
  Equal grammars in the reference.
-/
namespace Go.Proofs.YtmdmgndhapdmgaaGreat
open Go.RowKit

set_option maxHeartbeats 1000000 in
theorem specSameG_any (A D : Option Addr) (n c d : Nat) (xs : List Fac) (w : World) (hn : n ≤ maxLen)
    (hx : Rd w w.heap.size A n 3 Fac.cells xs) (hy : Rd w w.heap.size D n 3 Fac.cells xs) :
    Calls Tryz.prog 13 #[.agg #[.slice A n c], .agg #[.slice D n d]] w (Ret (.bool true) w) := by
  have hl := Lib.hid hx.len
  unfold maxLen at hn
  go_enter Tryz.func13, Tryz.ntmps13
  go_wp2_with fail
  refine named fun w1 H1 => ?_
  have hb1 : Below w.heap.size w w1 := by rw [H1.out]; (repeat first | exact Below.refl _ _ | assumption | refine Below.drew ?_ | refine Below.alloc ?_ (by first | exact Nat.le_refl _ | (simp; done) | omega | (simp; omega)) _ | refine Below.setCell ?_ (by first | exact Nat.le_refl _ | (simp; done) | omega | (simp; omega)) _)
  have B1 := Lib.hid (show Blk w1 w.heap.size 31 #[.slice A n c] by rw [H1.out]; exact (Blk.new w _ _).alloc _)
  have B2 := Lib.hid (show Blk w1 (w.heap.size + 1) 31 #[.slice D n d] by rw [H1.out]; simpa using Blk.new (w.alloc _) _ _)
  clear H1
  go_loopw [5] (fun i_ w' => ∃ k : Nat, i_ = .int .i64 k ∧ k ≤ n ∧ Hid (Below w1.heap.size w1 w')) (fun i_ _ => n - (intOf i_).toNat)
  case atStart => exact ⟨0, rfl, by omega, Lib.hid (Below.refl _ _)⟩
  case round =>
    obtain ⟨k, rfl, hk, hb⟩ := hrel
    have g0 : wr.cell? ⟨w.heap.size, 0, none⟩ = some (.slice A n c) := (B1.out.next hb.out).cell 0
    have g1 : wr.cell? ⟨w.heap.size + 1, 0, none⟩ = some (.slice D n d) := (B2.out.next hb.out).cell 0
    have zg0 := (B1.out.next hb.out).lt
    have zg1 := (B2.out.next hb.out).lt
    have b := Lib.hid (hb1.trans (hb.out.mono hb1.size))
    by_cases hlt : k < n
    · obtain ⟨b1, o1, x, rfl, hB, gx, c0, c1, c2⟩ := (hx.below b.out).fac hlt
      obtain ⟨b2, o2, y, rfl, hB', gy, d0, d1, d2⟩ := (hy.below b.out).fac hlt
      obtain rfl : x = y := Option.some.inj (gx.symm.trans gy)
      have zs := b.out.size
      have zB : b1 < wr.heap.size := by omega
      have zB' : b2 < wr.heap.size := by omega
      clear gx gy hx hy
      have hup := upc wr.heap.size wr
      have i0 : (0 : Int) ≤ (k : Int) := by omega
      have i1 : (k : Int) < (n : Int) := by omega
      have hne := fun W => (neq_rule x x W).trans (by rw [show decide (x = x) = true from decide_eq_true rfl])
      go_wp2_with fail
      refine wp_region_up wr.heap.size (by kernel_rfl) (by kernel_rfl) ?_
      repeat (go_big_quiet_step (fail))
      refine wpQuiet_nil ?_
      intro w2 hw2
      have hb2 := up_of hw2
      go_wp2
      go_roundw
      case rel => exact ⟨k + 1, by go_num, by omega, Lib.hid (hb.out.trans (hb2.mono hb.out.size))⟩
      case measure => simp [intOf]; omega
    · go_wp2
      go_ret
      exact ⟨rfl, b.out⟩
end Go.Proofs.YtmdmgndhapdmgaaGreat


/-
  The rules that are met when the last rule is taken apart for a part of its word: (Grammar).pieces, by the contract of the function that it is handed.
-/
namespace Go.Proofs.YtmdmgndhapdmgaaGreat
open Go.RowKit

theorem Rd.i64 {w : World} {B n : Nat} {A : Option Addr} {xs : List Int} {k : Nat} (h : Rd w B A n 1 intE xs) (hk : k < n) :
    ∃ b o, A = some ⟨b, o, none⟩ ∧ b < B ∧ w.cell? ⟨b, o + k, none⟩ = some (.int .i64 (xs.getD k 0)) := by
  obtain ⟨b, o, hA, hb, x, hx, hc⟩ := h.at_ hk
  refine ⟨b, o, hA, hb, ?_⟩
  have := hc 0 _ rfl
  rw [List.getD_eq_getElem?_getD, hx]
  simpa using this
/-- the rules that are met -/
def pcs (ls : List Int) (rs : List Fac) (i j : Int) : Nat → Nat → Int → List Nat
  | 0, _, _ => []
  | f + 1, r, a =>
    if a + ls.getD r 0 ≤ i then [] else if j ≤ a then [] else if i ≤ a ∧ a + ls.getD r 0 ≤ j then [r] else
    match rs[r]? with
    | none => []
    | some x => pcs ls rs i j f x.a.toNat a ++ pcs ls rs i j f x.b.toNat (a + ls.getD x.a.toNat 0)
theorem pcs_out1 {ls : List Int} {rs : List Fac} {i j : Int} {f r : Nat} {a : Int} (h : a + ls.getD r 0 ≤ i) : pcs ls rs i j f r a = [] := by
  cases f with
  | zero => rfl
  | succ f => rw [pcs, if_pos h]
theorem pcs_out2 {ls : List Int} {rs : List Fac} {i j : Int} {f r : Nat} {a : Int} (h : j ≤ a) : pcs ls rs i j f r a = [] := by
  cases f with
  | zero => rfl
  | succ f => rw [pcs, if_pos h]; split <;> rfl
theorem pcs_in {ls : List Int} {rs : List Fac} {i j : Int} {f r : Nat} {a : Int} (hf : r < f) (h1 : ¬ a + ls.getD r 0 ≤ i) (h2 : ¬ j ≤ a) (h3 : i ≤ a) (h4 : a + ls.getD r 0 ≤ j) : pcs ls rs i j f r a = [r] := by
  obtain ⟨g, rfl⟩ : ∃ g, f = g + 1 := ⟨f - 1, by omega⟩
  rw [pcs, if_neg h1, if_neg h2, if_pos ⟨h3, h4⟩]
theorem pcs_go {ls : List Int} {rs : List Fac} {i j : Int} {f r : Nat} {a : Int} {x : Fac} (hf : r < f) (h1 : ¬ a + ls.getD r 0 ≤ i) (h2 : ¬ j ≤ a) (h3 : ¬ (i ≤ a ∧ a + ls.getD r 0 ≤ j)) (hx : rs[r]? = some x) :
    pcs ls rs i j f r a = pcs ls rs i j (f - 1) x.a.toNat a ++ pcs ls rs i j (f - 1) x.b.toNat (a + ls.getD x.a.toNat 0) := by
  obtain ⟨g, rfl⟩ : ∃ g, f = g + 1 := ⟨f - 1, by omega⟩
  rw [pcs, if_neg h1, if_neg h2, if_neg h3, hx]
  rfl
theorem pcs_fuel {ls : List Int} {rs : List Fac} {i j : Int} (hls : gLens rs [] = some ls) : ∀ {r f g : Nat} {a : Int}, r < f → r < g → pcs ls rs i j f r a = pcs ls rs i j g r a := by
  intro r
  induction r using Nat.strongRecOn with
  | ind r ih =>
    intro f g a hf hg
    by_cases h1 : a + ls.getD r 0 ≤ i
    · rw [pcs_out1 h1, pcs_out1 h1]
    by_cases h2 : j ≤ a
    · rw [pcs_out2 h2, pcs_out2 h2]
    by_cases h3 : i ≤ a ∧ a + ls.getD r 0 ≤ j
    · rw [pcs_in hf h1 h2 h3.1 h3.2, pcs_in hg h1 h2 h3.1 h3.2]
    rcases hx : rs[r]? with _ | x
    · obtain ⟨f', rfl⟩ : ∃ f', f = f' + 1 := ⟨f - 1, by omega⟩
      obtain ⟨g', rfl⟩ : ∃ g', g = g' + 1 := ⟨g - 1, by omega⟩
      rw [pcs, pcs, if_neg h1, if_neg h1, if_neg h2, if_neg h2, if_neg h3, if_neg h3, hx]
    · rcases wf_of hls r x hx with ⟨h0, ha0, ha1, hb0, hb1⟩ | ⟨cc, _, hxl, hxa, hxb⟩
      · rw [pcs_go hf h1 h2 h3 hx, pcs_go hg h1 h2 h3 hx, ih x.a.toNat (by omega) (f := f - 1) (g := g - 1) (by omega) (by omega), ih x.b.toNat (by omega) (f := f - 1) (g := g - 1) (by omega) (by omega)]
      · exfalso
        have h0 : x.l.size ≠ 0 := by rw [hxl]; show (1 : Nat) ≠ 0; omega
        have := lens_let hls hx h0
        apply h3
        omega
def takeV (b0 : Nat) : Value := .func (.func 102) #[] #[.pointer (some ⟨b0 + 1, 0, none⟩), .pointer (some ⟨b0 + 2, 0, none⟩), .pointer (some ⟨b0 + 3, 0, none⟩), .pointer (some ⟨b0 + 4, 0, none⟩), .pointer (some ⟨b0, 0, none⟩), .pointer (some ⟨b0 + 5, 0, none⟩)]
/-- the boxes of 'pieces', and the lists that it reads -/
def PEnv (B b0 : Nat) (A : Option Addr) (n c : Nat) (rs : List Fac) (A2 : Option Addr) (c2 : Nat) (ls : List Int) (i j : Int) (fp : Nat) (cp : Array Value) (w : World) : Prop :=
  Blk w b0 31 #[.slice A n c] ∧ Blk w (b0 + 1) 61 #[.slice A2 n c2] ∧ Blk w (b0 + 2) 2 #[.int .i64 i] ∧ Blk w (b0 + 3) 2 #[.int .i64 j] ∧
    Blk w (b0 + 4) 146 #[.func (.func fp) #[] cp] ∧ Blk w (b0 + 5) 150 #[takeV b0] ∧ Rd w B A n 3 Fac.cells rs ∧ Rd w B A2 n 1 intE ls
section
variable {B b0 : Nat} {A : Option Addr} {n c : Nat} {rs : List Fac} {A2 : Option Addr} {c2 : Nat} {ls : List Int} {i j : Int} {fp : Nat} {cp : Array Value} {w w' : World}
theorem PEnv.next (h : PEnv B b0 A n c rs A2 c2 ls i j fp cp w) (hB : B ≤ b0) (hb : Below w.heap.size w w') : PEnv B b0 A n c rs A2 c2 ls i j fp cp w' := by
  obtain ⟨h0, h1, h2, h3, h4, h5, h6, h7⟩ := h
  have := h0.lt
  exact ⟨h0.next hb, h1.next hb, h2.next hb, h3.next hb, h4.next hb, h5.next hb, h6.next' (by omega) hb, h7.next' (by omega) hb⟩
theorem PEnv.grown {ob : Nat} (h : PEnv B b0 A n c rs A2 c2 ls i j fp cp w) (hB : B ≤ ob) (ho : ob < b0) (hb : w.grownBy w' (some ob)) : PEnv B b0 A n c rs A2 c2 ls i j fp cp w' := by
  obtain ⟨h0, h1, h2, h3, h4, h5, h6, h7⟩ := h
  have := h0.lt
  have ne : ∀ k, b0 ≤ k → some k ≠ some ob := fun k hk e => by injection e with e; omega
  exact ⟨h0.grown hb (ne _ (by omega)), h1.grown hb (ne _ (by omega)), h2.grown hb (ne _ (by omega)), h3.grown hb (ne _ (by omega)), h4.grown hb (ne _ (by omega)), h5.grown hb (ne _ (by omega)),
    h6.grown (by omega) hb (fun k hk => by injection hk with hk; omega), h7.grown (by omega) hb (fun k hk => by injection hk with hk; omega)⟩
end
section
variable {S : Type} (Inv : S → World → Prop) (step : S → Nat → S) (hI : ∀ s w w', Inv s w → Below w.heap.size w w' → Inv s w') (B ob b0 : Nat) (hBo : B ≤ ob) (hob : ob < b0) (A : Option Addr) (n c : Nat) (rs : List Fac) (A2 : Option Addr) (c2 : Nat) (ls : List Int) (i j : Int)
  (fp : Nat) (ep : EnterOk fp) (cp : Array Value) (hn : n ≤ 1048576) (hls : gLens rs [] = some ls)
  (hW : ∀ (s : S) (k : Nat) (w : World), k < n → Inv s w → Calls Tryz.prog fp (#[.int .i64 (k : Int)] ++ cp) w (fun e w' => e = .returned (.tuple #[]) ∧ w.grownBy w' (some ob) ∧ Inv (step s k) w'))
include hI hBo hob ep hn hls hW
omit hn in
/-- the rules that are met, from the last one on -/
def pcsT (ls : List Int) (rs : List Fac) (i j : Int) : List Nat := if 0 < rs.length ∧ i < j then pcs ls rs i j rs.length (rs.length - 1) 0 else []
end
end Go.Proofs.YtmdmgndhapdmgaaGreat


/-
  The rules that are met, where what is called for each writes into a builder: its box and its bytes change, and nothing else.
-/
namespace Go.Proofs.YtmdmgndhapdmgaaGreat
open Go.RowKit

/-- what lies below B stays, and all that is neither the block ob nor a row of T -/
structure KB (B : Nat) (T : TypeId) (ob : Nat) (w w' : World) : Prop where
  b : Below B w w'
  k : Lib.OthersKept T (some ob) w w'
section
variable {B : Nat} {T : TypeId} {ob : Nat} {w w1 w' : World}
theorem KB.refl (B : Nat) (T : TypeId) (ob : Nat) (w : World) : KB B T ob w w := ⟨Below.refl _ _, Lib.OthersKept.refl _ _ _⟩
theorem KB.below (hb : Below w.heap.size w w') (hB : B ≤ w.heap.size) : KB B T ob w w' :=
  ⟨hb.mono hB, fun k o hk _ _ => (hb.block k (Array.getElem?_eq_some_iff.1 hk).1).trans hk⟩
theorem KB.trans (h1 : KB B T ob w w1) (h2 : KB B T ob w1 w') : KB B T ob w w' := ⟨h1.b.trans h2.b, h1.k.trans h2.k⟩
theorem Blk.kb {g : Nat} {t : TypeId} {cs : Array Value} (h : Blk w g t cs) (hk : KB B T ob w w') (ht : t ≠ T) (hg : g ≠ ob) : Blk w' g t cs :=
  hk.k g _ h (by intro e; injection e with e; exact hg e) (fun c fz e => by injection e with _ e; exact ht e)
end
theorem PEnv.kb {B ob b0 : Nat} {A : Option Addr} {n c : Nat} {rs : List Fac} {A2 : Option Addr} {c2 : Nat} {ls : List Int} {i j : Int} {fp : Nat} {cp : Array Value} {w w' : World} (h : PEnv B b0 A n c rs A2 c2 ls i j fp cp w) (ho : ob < b0) (hb : KB B 5 ob w w') : PEnv B b0 A n c rs A2 c2 ls i j fp cp w' := by
  obtain ⟨h0, h1, h2, h3, h4, h5, h6, h7⟩ := h
  exact ⟨h0.kb hb (by decide) (by omega), h1.kb hb (by decide) (by omega), h2.kb hb (by decide) (by omega), h3.kb hb (by decide) (by omega), h4.kb hb (by decide) (by omega), h5.kb hb (by decide) (by omega), h6.below hb.b, h7.below hb.b⟩
section
variable (Inv : List Nat → World → Prop) (hI : ∀ s w w', Inv s w → Below w.heap.size w w' → Inv s w') (B ob b0 : Nat) (hBo : B ≤ ob) (hob : ob < b0) (A : Option Addr) (n c : Nat) (rs : List Fac) (A2 : Option Addr) (c2 : Nat) (ls : List Int) (i j : Int)
  (fp : Nat) (ep : EnterOk fp) (cp : Array Value) (hn : n ≤ 1048576) (hls : gLens rs [] = some ls)
  (hW : ∀ (s : List Nat) (k : Nat) (w : World), k < n → Inv (k :: s) w → Calls Tryz.prog fp (#[.int .i64 (k : Int)] ++ cp) w (fun e w' => e = .returned (.tuple #[]) ∧ KB B 5 ob w w' ∧ Inv s w'))
include hI hBo hob ep hn hls hW
omit hn in
set_option maxHeartbeats 1000000 in
set_option maxRecDepth 100000 in
theorem takeK_any : ∀ (r : Nat) (a : Int) (s : List Nat) (w : World), r < n → 0 ≤ a → a + ls.getD r 0 ≤ 1000000000000000 → PEnv B b0 A n c rs A2 c2 ls i j fp cp w → Inv (pcs ls rs i j (r + 1) r a ++ s) w →
    Calls Tryz.prog 102 #[.int .i64 (r : Int), .int .i64 a, .pointer (some ⟨b0 + 1, 0, none⟩), .pointer (some ⟨b0 + 2, 0, none⟩), .pointer (some ⟨b0 + 3, 0, none⟩), .pointer (some ⟨b0 + 4, 0, none⟩), .pointer (some ⟨b0, 0, none⟩), .pointer (some ⟨b0 + 5, 0, none⟩)] w
      (fun e w' => e = .returned (.tuple #[]) ∧ KB B 5 ob w w' ∧ Inv s w') := by
  intro r
  induction r using Nat.strongRecOn with
  | ind r ih =>
    intro a s w hr ha ha2 hE hS
    have IH := Lib.hid ih; clear ih
    have HW := Lib.hid hW
    have HI := Lib.hid hI
    have HE := Lib.hid hE
    have HS := Lib.hid hS
    have HL := Lib.hid hls
    obtain ⟨e0, e1, e2, e3, e4, e5, e6, e7⟩ := hE
    have hl := Lib.hid e6.len
    have z0 := e0.lt; have z1 := e1.lt; have z2 := e2.lt; have z3 := e3.lt; have z4 := e4.lt; have z5 := e5.lt
    have d0 := e0.cell 0; have d1 := e1.cell 0; have d2 := e2.cell 0; have d3 := e3.cell 0; have d4 := e4.cell 0; have d5 := e5.cell 0
    have hBs : B ≤ w.heap.size := by omega
    have d5' : w.cell? ⟨b0 + 5, 0, none⟩ = some (takeV b0) := d5
    clear d5
    unfold takeV at d5'
    obtain ⟨p2, o2, rfl, hB2, c2'⟩ := (e7.more hBs).i64 (k := r) hr
    obtain ⟨b, o, x, rfl, hB1, gx, c00, c01, c02⟩ := (e6.more hBs).fac hr
    have lb := lens_bound HL.out (i := r) (by rw [hl.out]; exact hr)
    have Gx := Lib.hid gx
    clear hS e0 e1 e2 e3 e4 e5 e6 e7 hW hI gx
    have et := enterOk Tryz.func102 (by kernel_rfl) (by kernel_rfl)
    unfold EnterOk at et
    have ep' := ep
    unfold EnterOk at ep'
    generalize hlr : ls.getD r 0 = lr at *
    obtain ⟨lb0, lb1⟩ := lb
    have u1 : IntKind.i64.wrap (a + lr) = a + lr := IntWalk.i64_in _ (by omega)
    have i1 : (0 : Int) ≤ (r : Int) := by omega
    have i2 : (r : Int) < n := by omega
    by_cases h1 : a + lr ≤ i
    · have e := Lib.hid (show pcs ls rs i j (r + 1) r a = [] from pcs_out1 (by rw [hlr]; exact h1))
      go_enter Tryz.func102, Tryz.ntmps102
      go_wp2_with fail
      refine bodyPost_ret (results_none rfl _ _ _) rfl ?_
      exact ⟨rfl, KB.refl _ _ _ _, by have h := HS.out; rw [e.out] at h; exact h⟩
    by_cases h2 : j ≤ a
    · have e := Lib.hid (show pcs ls rs i j (r + 1) r a = [] from pcs_out2 h2)
      go_enter Tryz.func102, Tryz.ntmps102
      go_wp2_with fail
      refine bodyPost_ret (results_none rfl _ _ _) rfl ?_
      exact ⟨rfl, KB.refl _ _ _ _, by have h := HS.out; rw [e.out] at h; exact h⟩
    by_cases h3 : i ≤ a ∧ a + lr ≤ j
    · have e := Lib.hid (show pcs ls rs i j (r + 1) r a = [r] from pcs_in (by omega) (by rw [hlr]; exact h1) h2 h3.1 (by rw [hlr]; exact h3.2))
      obtain ⟨h30, h31⟩ := h3
      go_enter Tryz.func102, Tryz.ntmps102
      go_wp2_with fail
      refine (HW.out s r w hr (by have h := HS.out; rw [e.out] at h; exact h)).mono ?_
      rintro e1 w1 ⟨rfl, hg1, hs1⟩
      go_wp2_with fail
      refine bodyPost_ret (results_none rfl _ _ _) rfl ?_
      exact ⟨rfl, hg1, hs1⟩
    · have e := Lib.hid (show pcs ls rs i j (r + 1) r a = _ from pcs_go (by omega) (by rw [hlr]; exact h1) h2 (by rw [hlr]; exact h3) Gx.out)
      rw [Nat.add_sub_cancel] at e
      rcases wf_of HL.out r x Gx.out with ⟨h0, ha0, ha1, hb0', hb1'⟩ | ⟨cc, _, hxl, _⟩
      case inr =>
        exfalso
        have h0 : x.l.size ≠ 0 := by rw [hxl]; show (1 : Nat) ≠ 0; omega
        have := lens_let HL.out Gx.out h0
        apply h3
        omega
      have HS0 := HS.out
      rw [e.out, List.append_assoc, pcs_fuel HL.out (f := r) (g := x.a.toNat + 1) (by omega) (by omega), pcs_fuel HL.out (f := r) (g := x.b.toNat + 1) (by omega) (by omega)] at HS0
      have HS := Lib.hid HS0
      clear HS0
      have lp := lens_pair HL.out Gx.out h0
      have lb2 := lens_bound HL.out (i := x.a.toNat) (by rw [hl.out]; omega)
      have lb3 := lens_bound HL.out (i := x.b.toNat) (by rw [hl.out]; omega)
      have hnot : i ≤ a → ¬ (a + lr ≤ j) := fun h4 h5 => h3 ⟨h4, h5⟩
      by_cases h4 : i ≤ a
      all_goals
        try have h5 := hnot h4
        clear hnot h3
        go_enter Tryz.func102, Tryz.ntmps102
        go_wp2_with fail
        refine namedC fun w1 H1 => ?_
        have hb1 : Below w.heap.size w w1 := by rw [H1.out]; (repeat first | exact Below.refl _ _ | assumption | refine Below.drew ?_ | refine Below.alloc ?_ (by first | exact Nat.le_refl _ | (simp; done) | omega | (simp; omega)) _ | refine Below.setCell ?_ (by first | exact Nat.le_refl _ | (simp; done) | omega | (simp; omega)) _)
        have BX := Lib.hid (show Blk w1 w.heap.size 72 #[.string x.l, .int .i64 x.a, .int .i64 x.b] by rw [H1.out]; exact Blk.new _ _ _)
        clear H1
        have hx0 := Lib.hid (IH.out x.a.toNat (by omega) a (pcs ls rs i j (x.b.toNat + 1) x.b.toNat (a + ls.getD x.a.toNat 0) ++ s) w1 (by omega) ha (by omega) (HE.out.next (by omega) hb1) (HI.out _ w w1 HS.out hb1))
        rw [show ((x.a.toNat : Nat) : Int) = x.a by omega] at hx0
        refine hx0.out.mono ?_
        rintro e1 w2 ⟨rfl, hg2, hs2⟩
        have G2 := Lib.hid (KB.trans (KB.below hb1 (by omega)) hg2)
        have HS2 := Lib.hid hs2
        have HE2 := Lib.hid ((HE.out.next (by omega) hb1).kb hob hg2)
        have BX2 := BX.out.kb hg2 (by decide) (by omega)
        have BX3 := Lib.hid BX2
        have zx := BX2.lt
        clear hs2 hg2 BX2 d0 d1 d2 d3 d4 d5' c00 c01 c02 c2'
        obtain ⟨e0, e1, e2, e3, e4, e5, e6, e7⟩ := HE2.out
        have z0' := e0.lt; have z1' := e1.lt; have z5' := e5.lt
        have d1 := e1.cell 0
        have d5 : w2.cell? ⟨b0 + 5, 0, none⟩ = some (takeV b0) := e5.cell 0
        unfold takeV at d5
        have hBs2 : B ≤ w2.heap.size := by omega
        obtain ⟨p9, o9, hA9, hB9, c9⟩ := (e7.more hBs2).i64 (k := x.a.toNat) (by omega)
        obtain ⟨rfl, rfl⟩ : p2 = p9 ∧ o2 = o9 := by injection hA9 with hA9; injection hA9 with h1 h2; exact ⟨h1, h2⟩
        have hx1 := Lib.hid (IH.out x.b.toNat (by omega) (a + ls.getD x.a.toNat 0) s w2.drew (by omega) (by omega) (by omega) (HE2.out.next (by omega) (Below.refl _ _).drew) (HI.out _ _ _ HS2.out (Below.refl _ _).drew))
        rw [show ((x.b.toNat : Nat) : Int) = x.b by omega] at hx1
        generalize hy : ls.getD x.a.toNat 0 = y at *
        have u2 : IntKind.i64.wrap (a + y) = a + y := IntWalk.i64_in _ (by omega)
        have i5 : x.a < (n : Int) := by omega
        have D1 := Lib.hid d1; have D5 := Lib.hid d5; have C9 := Lib.hid c9
        have hB9b := Lib.hid (show p2 < B from by
          obtain ⟨p9, o9, hA9, hB9', _⟩ := e7.i64 (k := x.a.toNat) (by omega)
          injection hA9 with hA9; injection hA9 with h1 h2
          omega)
        have E1 := Lib.hid e1.drew; have E5 := Lib.hid e5.drew; have BX4 := Lib.hid BX3.out.drew
        clear d1 d5 c9
        clear e0 e1 e2 e3 e4 e5 e6 e7 hA9 hx0 h1 h2 lp lb2 lb3 u1 hy hlr lb0 lb1 ha2 h4
        try clear h5
        clear IH HW HI HE HS HL BX e
        go_wp2_with fail
        have d1 := D1.out; have d5 := D5.out; have c9 := C9.out
        obtain ⟨x0, x1, x2⟩ := BX3.out.three
        go_region_held3 (fun w' => w'.cell? ⟨w.heap.size, 1, none⟩ = some (.int .i64 x.a) ∧ w'.cell? ⟨w.heap.size, 2, none⟩ = some (.int .i64 x.b) ∧ w'.cell? ⟨b0 + 1, 0, none⟩ = some (.slice (some ⟨p2, o2, none⟩) n c2) ∧
            w'.cell? ⟨b0 + 5, 0, none⟩ = some (.func (.func 102) #[] #[.pointer (some ⟨b0 + 1, 0, none⟩), .pointer (some ⟨b0 + 2, 0, none⟩), .pointer (some ⟨b0 + 3, 0, none⟩), .pointer (some ⟨b0 + 4, 0, none⟩), .pointer (some ⟨b0, 0, none⟩), .pointer (some ⟨b0 + 5, 0, none⟩)]) ∧
            w'.cell? ⟨p2, o2 + x.a.toNat, none⟩ = some (.int .i64 y))
          (first | exact ⟨s0, s1, s2, s3, s4⟩ | exact ⟨x1, x2, d1, d5, c9⟩ | go_keep)
          (first
            | (go_at_call 102
               refine hx1.out.mono ?_
               rintro e9 w3 ⟨rfl, hg3, hs3⟩
               have G3 := Lib.hid (KB.trans G2.out (KB.trans (KB.below (Below.refl w2.heap.size w2).drew hBs2) hg3))
               have s0 : w3.cell? ⟨w.heap.size, 1, none⟩ = some (.int .i64 x.a) := ((BX4.out.kb hg3 (by decide) (by omega)).cell 1)
               have s1 : w3.cell? ⟨w.heap.size, 2, none⟩ = some (.int .i64 x.b) := ((BX4.out.kb hg3 (by decide) (by omega)).cell 2)
               have s2 : w3.cell? ⟨b0 + 1, 0, none⟩ = some (.slice (some ⟨p2, o2, none⟩) n c2) := ((E1.out.kb hg3 (by decide) (by omega)).cell 0)
               have s3 : w3.cell? ⟨b0 + 5, 0, none⟩ = some (.func (.func 102) #[] #[.pointer (some ⟨b0 + 1, 0, none⟩), .pointer (some ⟨b0 + 2, 0, none⟩), .pointer (some ⟨b0 + 3, 0, none⟩), .pointer (some ⟨b0 + 4, 0, none⟩), .pointer (some ⟨b0, 0, none⟩), .pointer (some ⟨b0 + 5, 0, none⟩)]) := ((E5.out.kb hg3 (by decide) (by omega)).cell 0)
               have s4 : w3.cell? ⟨p2, o2 + x.a.toNat, none⟩ = some (.int .i64 y) := (hg3.b.cell (p := ⟨p2, o2 + x.a.toNat, none⟩) hB9b.out).trans c9
               have HS3 := Lib.hid hs3
               clear hg3 hs3)
            | fail)
        go_wp2_with fail
        go_end0
        exact ⟨rfl, G3.out, HS3.out⟩
set_option maxHeartbeats 1000000 in
set_option maxRecDepth 100000 in
theorem piecesK_any (s : List Nat) (w : World) (hw : w.heap.size = b0) (hA : Rd w B A n 3 Fac.cells rs) (hA2 : Rd w B A2 n 1 intE ls) (hS : Inv (pcsT ls rs i j ++ s) w) :
    Calls Tryz.prog 97 #[.agg #[.slice A n c], .slice A2 n c2, .int .i64 i, .int .i64 j, .func (.func fp) #[] cp] w
      (fun e w' => e = .returned (.tuple #[]) ∧ KB B 5 ob w w' ∧ Inv s w') := by
  have HW := Lib.hid hW
  have HI := Lib.hid hI
  have HS := Lib.hid hS
  have HL := Lib.hid hls
  have hl := Lib.hid hA.len
  have HA := Lib.hid hA
  have HA2 := Lib.hid hA2
  subst hw
  clear hW hI hS hA hA2 hls
  have et := enterOk Tryz.func102 (by kernel_rfl) (by kernel_rfl)
  unfold EnterOk at et
  by_cases h0 : n = 0
  · have e := Lib.hid (show pcsT ls rs i j = [] by unfold pcsT; rw [if_neg (by rw [hl.out]; omega)])
    subst h0
    go_enter Tryz.func97, Tryz.ntmps97
    go_wp2_with fail
    go_end0
    have h := HS.out
    rw [e.out] at h
    refine ⟨rfl, KB.below (by (repeat first | exact Below.refl _ _ | assumption | refine Below.drew ?_ | refine Below.alloc ?_ (by first | exact Nat.le_refl _ | (simp; done) | omega | (simp; omega)) _ | refine Below.setCell ?_ (by first | exact Nat.le_refl _ | (simp; done) | omega | (simp; omega)) _)) (by omega), HI.out _ _ _ h (by (repeat first | exact Below.refl _ _ | assumption | refine Below.drew ?_ | refine Below.alloc ?_ (by first | exact Nat.le_refl _ | (simp; done) | omega | (simp; omega)) _ | refine Below.setCell ?_ (by first | exact Nat.le_refl _ | (simp; done) | omega | (simp; omega)) _))⟩
  by_cases hij : i < j
  · have e := Lib.hid (show pcsT ls rs i j = pcs ls rs i j (n - 1 + 1) (n - 1) 0 by unfold pcsT; rw [if_pos (by rw [hl.out]; omega), hl.out, show n - 1 + 1 = n by omega])
    have h1 : 0 < n := by omega
    have u0 : IntKind.i64.wrap ((n : Int) - 1) = (n : Int) - 1 := IntWalk.i64_in _ (by omega)
    have hlb := lens_bound HL.out (i := n - 1) (by rw [hl.out]; omega)
    go_enter Tryz.func97, Tryz.ntmps97
    go_wp2_with fail
    refine namedC fun w1 H1 => ?_
    have hb1 : Below w.heap.size w w1 := by rw [H1.out]; (repeat first | exact Below.refl _ _ | assumption | refine Below.drew ?_ | refine Below.alloc ?_ (by first | exact Nat.le_refl _ | (simp; done) | omega | (simp; omega)) _ | refine Below.setCell ?_ (by first | exact Nat.le_refl _ | (simp; done) | omega | (simp; omega)) _)
    have hE : PEnv B w.heap.size A n c rs A2 c2 ls i j fp cp w1 := by
      refine ⟨?_, ?_, ?_, ?_, ?_, ?_, (HA.out.next' (by omega) hb1), (HA2.out.next' (by omega) hb1)⟩
      · rw [H1.out]; exact (((((Blk.new w _ _).alloc _).alloc _).alloc _).alloc _).alloc _
      · rw [H1.out]; simpa using ((((Blk.new (w.alloc _) _ _).alloc _).alloc _).alloc _).alloc _
      · rw [H1.out]; simpa using (((Blk.new ((w.alloc _).alloc _) _ _).alloc _).alloc _).alloc _
      · rw [H1.out]; simpa using ((Blk.new (((w.alloc _).alloc _).alloc _) _ _).alloc _).alloc _
      · rw [H1.out]; simpa using (Blk.new ((((w.alloc _).alloc _).alloc _).alloc _) _ _).alloc _
      · rw [H1.out]; simpa [takeV] using Blk.new (((((w.alloc _).alloc _).alloc _).alloc _).alloc _) _ _
    have hE' := Lib.hid hE
    clear hE H1
    have HS1 := HS.out
    rw [e.out] at HS1
    have ht := takeK_any Inv HI.out B ob w.heap.size hBo hob A n c rs A2 c2 ls i j fp ep cp HL.out HW.out (n - 1) 0 s w1 (by omega) (by omega) (by omega) hE'.out (HI.out _ _ _ HS1 hb1)
    rw [show ((n - 1 : Nat) : Int) = (n : Int) - 1 by omega] at ht
    refine (by simpa [Nat.add_assoc] using ht : Calls _ _ _ _ _).mono ?_
    rintro e1 w2 ⟨rfl, hg2, hs2⟩
    have G2 := Lib.hid (KB.trans (KB.below hb1 (by omega)) hg2)
    have HS2 := Lib.hid hs2
    clear hg2 hs2 ht
    go_wp2_with fail
    go_end0
    exact ⟨rfl, G2.out, HS2.out⟩
  · have e := Lib.hid (show pcsT ls rs i j = [] by unfold pcsT; rw [if_neg (by omega)])
    have h1 : 0 < n := by omega
    go_enter Tryz.func97, Tryz.ntmps97
    go_wp2_with fail
    go_end0
    have h := HS.out
    rw [e.out] at h
    refine ⟨rfl, KB.below (by (repeat first | exact Below.refl _ _ | assumption | refine Below.drew ?_ | refine Below.alloc ?_ (by first | exact Nat.le_refl _ | (simp; done) | omega | (simp; omega)) _ | refine Below.setCell ?_ (by first | exact Nat.le_refl _ | (simp; done) | omega | (simp; omega)) _)) (by omega), HI.out _ _ _ h (by (repeat first | exact Below.refl _ _ | assumption | refine Below.drew ?_ | refine Below.alloc ?_ (by first | exact Nat.le_refl _ | (simp; done) | omega | (simp; omega)) _ | refine Below.setCell ?_ (by first | exact Nat.le_refl _ | (simp; done) | omega | (simp; omega)) _))⟩
end
end Go.Proofs.YtmdmgndhapdmgaaGreat


/-
  strings.Builder, written many times: its box and its bytes change, and nothing else.
-/
namespace Go.Proofs.YtmdmgndhapdmgaaGreat
open Go.RowKit

theorem bldK_size : (Tryz.prog.info? 55).map (·.size) = some 2 := by kernel_rfl
theorem bldK_lies : liesAt Tryz.prog Tryz.prog.depth 55 (2 / Tryz.prog.cellsOf 55) 0 55 1 = true := by kernel_rfl
theorem info_u8K : (Tryz.prog.info? 5).map (fun i => (i.zero, i.size, i.bytes)) = some (some (.int .u8 0), 1, 1) := by kernel_rfl
/-- a builder that holds bytes, its box b and its bytes above B -/
def Bld (B b : Nat) (l : List UInt8) (w : World) : Prop := Lib.IsBuilder 55 5 B b (Lib.byteCells l) w
theorem Bld.lt {B b : Nat} {l : List UInt8} {w : World} (h : Bld B b l w) : b < w.heap.size := by rcases h with h | h <;> exact h.lt
theorem Bld.ge {B b : Nat} {l : List UInt8} {w : World} (h : Bld B b l w) : B ≤ b := by rcases h with h | h <;> exact h.1
theorem Bld.next {B b : Nat} {l : List UInt8} {w w' : World} (h : Bld B b l w) (hb : Below w.heap.size w w') : Bld B b l w' := by
  have one : ∀ {p : Value}, Lib.BuilderAt 55 5 B b p (Lib.byteCells l) w → Lib.BuilderAt 55 5 B b p (Lib.byteCells l) w' := fun h => by
    have hl := h.lt
    obtain ⟨hB, v, hbk, hown, hne⟩ := h
    exact ⟨hB, v, (hb.block b hl).trans hbk, own_next hown hb, hne⟩
  exact h.imp one one
theorem Bld.fresh {B b : Nat} {w : World} (hB : B ≤ b) (h : Blk w b 55 #[.pointer none, .slice none 0 0]) : Bld B b [] w :=
  .inl ⟨hB, .slice none 0 0, h, World.ownsRow_nil _ _ _ _, by simp [Value.ownBlock]⟩
set_option maxHeartbeats 1000000 in
set_option maxRecDepth 100000 in
theorem bCheckF_any (b : Nat) (v : Value) (w : World) (hB : Blk w b 55 #[.pointer none, v]) :
    Calls Tryz.prog 63 #[.pointer (some ⟨b, 0, none⟩)] w fun e w' => e = .returned (.tuple #[]) ∧ w' = w.setCell ⟨b, 0, none⟩ (.pointer (some ⟨b, 0, none⟩)) := by
  obtain ⟨j, hj, hjs⟩ := Option.map_eq_some_iff.1 bldK_size
  have h0 : w.cell? ⟨b, 0, none⟩ = some (.pointer none) := hB.cell 0
  have hsh : w.shape? b = some (55, 2) := by unfold Blk at hB; simp [World.shape?, hB]
  have hfz := hB.frozen 0
  have hl := hB.lt
  go_enter Tryz.func63, Tryz.ntmps63
  go_wp2
  rw [Lib.run_to_unsafe w ⟨b, 0, none⟩ Tryz.underlying53 Tryz.underlying136 hj (by rw [hjs]; decide) hsh (Nat.zero_lt_succ 1)]
  simp only [Result.andThen]
  rw [Oper.upon_value]
  go_wp2
  rw [run_callFunc_extern Tryz.func88 (by kernel_rfl) (by kernel_rfl) (by kernel_rfl) (e := Extern.AbiNoEscape.same) (by kernel_rfl)]
  rw [Lib.run_noEscape]
  simp only [Result.andThen]
  rw [Oper.upon_value]
  go_wp2
  rw [Lib.run_from_unsafe w ⟨b, 0, none⟩ Tryz.underlying136 Tryz.underlying53 hj hsh bldK_lies]
  simp only [Result.andThen]
  rw [Oper.upon_value]
  go_wp2
  go_end0
  exact ⟨rfl, rfl⟩
set_option maxHeartbeats 1000000 in
set_option maxRecDepth 100000 in
theorem bCheckU_any (b : Nat) (v : Value) (w : World) (hB : Blk w b 55 #[.pointer (some ⟨b, 0, none⟩), v]) :
    Calls Tryz.prog 63 #[.pointer (some ⟨b, 0, none⟩)] w fun e w' => e = .returned (.tuple #[]) ∧ w' = w := by
  obtain ⟨j, hj, hjs⟩ := Option.map_eq_some_iff.1 bldK_size
  have h0 : w.cell? ⟨b, 0, none⟩ = some (.pointer (some ⟨b, 0, none⟩)) := hB.cell 0
  have hn := Lib.run_neq_ptr_same (P := Tryz.prog) w (tp := 53) (te := 55) ⟨b, 0, none⟩ Tryz.underlying53 hj
  go_enter Tryz.func63, Tryz.ntmps63
  go_wp2
  go_end0
  exact ⟨rfl, rfl⟩
/-- copyCheck, whatever the builder -/
theorem bCheckK_any (B b : Nat) (l : List UInt8) (w : World) (h : Bld B b l w) :
    Calls Tryz.prog 63 #[.pointer (some ⟨b, 0, none⟩)] w fun e w' => e = .returned (.tuple #[]) ∧ Lib.BuilderAt 55 5 B b (.pointer (some ⟨b, 0, none⟩)) (Lib.byteCells l) w' ∧ KB B 5 b w w' := by
  rcases h with h | h
  · have h' := h
    obtain ⟨hB, v, hbk, _, _⟩ := h'
    refine (bCheckF_any b v w hbk).mono ?_
    rintro e w' ⟨rfl, rfl⟩
    exact ⟨rfl, h.used _, (Below.refl B w).setCell (p := ⟨b, 0, none⟩) hB _, (Lib.OthersKept.refl _ _ w).setCell ⟨b, 0, none⟩ rfl _⟩
  · have h' := h
    obtain ⟨hB, v, hbk, _, _⟩ := h'
    refine (bCheckU_any b v w hbk).mono ?_
    rintro e w' ⟨rfl, rfl⟩
    exact ⟨rfl, h, KB.refl _ _ _ _⟩
set_option maxHeartbeats 2000000 in
set_option maxRecDepth 100000 in
theorem bWriteK_any (B b : Nat) (l : List UInt8) (s : ByteArray) (w : World) (h : Bld B b l w) (hlen : l.length + s.size ≤ 140737488355328) (hBw : B ≤ w.heap.size) :
    Calls Tryz.prog 25 #[.pointer (some ⟨b, 0, none⟩), .string s] w fun e w' => e = .returned (.tuple #[.int .i64 s.size, .nilIface]) ∧ KB B 5 b w w' ∧ Bld B b (l ++ s.data.toList) w' := by
  obtain ⟨i0, hi, hz0, hz1, hz2⟩ := info_parts info_u8K
  have HC := Lib.hid (bCheckK_any B b l w h)
  have hcl : (Lib.byteCells l).length = l.length := Lib.byteCells_length l
  have hap : Lib.byteCells (l ++ s.data.toList) = Lib.byteCells l ++ Lib.strCells s := by simp [Lib.byteCells, Lib.strCells]
  clear h
  go_enter Tryz.func25, Tryz.ntmps25
  go_wp2_with fail
  refine HC.out.mono ?_
  rintro e w1 ⟨rfl, h1, hk1⟩
  have K1 := Lib.hid hk1
  obtain ⟨hB, v, hbk, hown, hne⟩ := h1
  have bk1 := Lib.hid hbk
  have hs1 := hk1.b.size
  have c0 : w1.cell? ⟨b, 0, none⟩ = some (.pointer (some ⟨b, 0, none⟩)) := by rw [Lib.cell_of_heap hbk]; rfl
  have c1 : w1.cell? ⟨b, 1, none⟩ = some v := by rw [Lib.cell_of_heap hbk]; rfl
  have hlt : b < w1.heap.size := (Array.getElem?_eq_some_iff.1 hbk).1
  clear hk1 HC hbk
  go_wp2_with
    (at_builtin
     refine Go.Lib.wpList_append_own_string _ rfl _ _ 22 9 rfl B 5 i0 Tryz.underlying22 Tryz.underlying9 hi hz0 hz1 hz2 v l.length (Lib.byteCells l) rfl (by rw [hcl] at hown; exact hown) s rfl (by unfold maxLen; omega) (by omega) (by omega) ?_
     intro v9 w9 own9 hg9 hat9
     have O9 := Lib.hid own9
     have G9 := Lib.hid hg9
     have hb9 := Lib.hid (show w9.heap[b]? = some (.cells #[.pointer (some ⟨b, 0, none⟩), v] 55 (0, 0)) by rw [hg9.block b hlt (fun e => hne e.symm)]; exact bk1.out)
     have hv : ∃ A c n, v9 = .slice A n c := by
       rcases own9.2 with ⟨hv, h0⟩ | ⟨g, cap, cur, hv, _⟩
       · exact ⟨none, 0, _, hv⟩
       · exact ⟨_, _, _, hv⟩
     obtain ⟨A9, c9, n9, rfl⟩ := hv
     have d0 : w9.cell? ⟨b, 0, none⟩ = some (.pointer (some ⟨b, 0, none⟩)) := by rw [Lib.cell_of_heap hb9.out]; rfl
     have d1 : w9.cell? ⟨b, 1, none⟩ = some v := by rw [Lib.cell_of_heap hb9.out]; rfl
     have f1 : w9.frozen? ⟨b, 1, none⟩ = false := Lib.frozen_of_heap hb9.out 1
     clear own9 hg9 hat9)
  go_ret2
  refine ⟨rfl, ⟨?_, ?_⟩, ?_⟩
  · exact (K1.out.b.grown G9.out (by omega) (fun k hk => (hown.lt k hk).1)).setCell (p := ⟨b, 1, none⟩) hB _
  · refine (K1.out.k.grown G9.out (fun g hg => ?_)).setCell ⟨b, 1, none⟩ rfl _
    rcases hown.2 with ⟨hv, h0⟩ | ⟨g', cap, cur, hv, _, hh, _⟩
    · rw [hv] at hg; cases hg
    · rw [hv] at hg
      have e : g' = g := by simpa [Value.ownBlock] using hg
      subst e
      exact ⟨_, _, hh⟩
  · refine .inr ?_
    rw [hap]
    exact Lib.BuilderAt.put (T := 55) (e := 5) hB hb9.out (bs' := Lib.byteCells l ++ Lib.strCells s) (by simpa [Lib.strCells_length, hcl] using O9.out) (by decide)
end Go.Proofs.YtmdmgndhapdmgaaGreat


/-
  The words of the rules that are met are the part of the word. Plain.
-/
namespace Go.Proofs.YtmdmgndhapdmgaaGreat

/-- the words of some rules, one behind the other -/
def wdsOf (rs : List Fac) (ks : List Nat) : List Nat := ks.flatMap fun k => (wds rs).getD k []
theorem wdsOf_app (rs : List Fac) (a b : List Nat) : wdsOf rs (a ++ b) = wdsOf rs a ++ wdsOf rs b := List.flatMap_append
theorem wdsOf_one (rs : List Fac) (k : Nat) : wdsOf rs [k] = (wds rs).getD k [] := by simp [wdsOf]
theorem pcs_words {rs : List Fac} {ls : List Int} (hls : gLens rs [] = some ls) (i j : Int) : ∀ (f r : Nat) (a : Int), r < f → r < rs.length →
    wdsOf rs (pcs ls rs i j f r a) = (((wds rs).getD r []).take (j - a).toNat).drop (i - a).toNat
  | 0, _, _, h, _ => by omega
  | f + 1, r, a, _, hr => by
    have hwf := wf_of hls
    have hlen := lens_word hls hr
    by_cases h1 : a + ls.getD r 0 ≤ i
    · rw [pcs_out1 h1, List.drop_eq_nil_of_le (by rw [List.length_take]; omega)]; rfl
    by_cases h2 : j ≤ a
    · rw [pcs_out2 h2, show (j - a).toNat = 0 by omega, List.take_zero, List.drop_nil]; rfl
    by_cases h3 : i ≤ a ∧ a + ls.getD r 0 ≤ j
    · rw [pcs_in (by omega) h1 h2 h3.1 h3.2, wdsOf_one, show (i - a).toNat = 0 by omega, List.drop_zero, List.take_of_length_le (by omega)]
    have hx : rs[r]? = some (rs[r]'hr) := List.getElem?_eq_getElem _
    generalize rs[r]'hr = x at hx
    rcases hwf r x hx with ⟨h0, a0, a1, b0, b1⟩ | ⟨cc, hc, hl, _, _⟩
    · have la := lens_word hls (k := x.a.toNat) (by omega)
      rw [pcs_go (by omega) h1 h2 h3 hx, Nat.add_sub_cancel, wdsOf_app, pcs_words hls i j f x.a.toNat a (by omega) (by omega), pcs_words hls i j f x.b.toNat _ (by omega) (by omega), wds_pair hwf hx h0]
      generalize (wds rs).getD x.a.toNat [] = u at *
      generalize (wds rs).getD x.b.toNat [] = v at *
      rw [la, List.take_append, List.drop_append]
      congr 1
      rw [List.length_take]
      by_cases h4 : (u.length : Int) ≤ j - a
      · rw [show (j - (a + (u.length : Int))).toNat = (j - a).toNat - u.length by omega, show (i - (a + (u.length : Int))).toNat = (i - a).toNat - min (j - a).toNat u.length by omega]
      · rw [show (j - (a + (u.length : Int))).toNat = 0 by omega, show (j - a).toNat - u.length = 0 by omega, List.take_zero, List.drop_nil, List.drop_nil]
    · exfalso
      have h0 : x.l.size ≠ 0 := by rw [hl]; show (1 : Nat) ≠ 0; omega
      have := lens_let hls hx h0
      apply h3
      omega
theorem pcsT_words {rs : List Fac} {ls : List Int} (hls : gLens rs [] = some ls) {i j : Nat} (h : i ≤ j) : wdsOf rs (pcsT ls rs i j) = ((wdN rs).take j).drop i := by
  unfold pcsT wdN
  by_cases h0 : rs = []
  · subst h0
    rw [if_neg (by simp), if_pos rfl, List.take_nil, List.drop_nil]; rfl
  · have h1 : 0 < rs.length := List.length_pos_iff.2 h0
    rw [if_neg h0]
    by_cases hij : i < j
    · rw [if_pos ⟨h1, by omega⟩, pcs_words hls _ _ _ _ _ (by omega) (by omega)]
      congr 1
    · rw [if_neg (by omega), List.drop_eq_nil_of_le (by rw [List.length_take]; omega)]; rfl
end Go.Proofs.YtmdmgndhapdmgaaGreat


/-
  A part of a word, in the program: the rules that are met are spelled into a builder.
-/
namespace Go.Proofs.YtmdmgndhapdmgaaGreat
open Go.RowKit

theorem txB_appU (u v : List Nat) : txB (u ++ v) = txB u ++ txB v := by simp [txB]
theorem txB_lenU (u : List Nat) : (txB u).length = u.length := by simp [txB]
/-- what is spelled stands where the speller reads it -/
structure SpE (B gb sb ob : Nat) (A : Option Addr) (n c : Nat) (rs : List Fac) (w : World) : Prop where
  g : Blk w gb 31 #[.slice A n c]
  s : Blk w sb 146 #[.func (.func 96) #[] #[.pointer (some ⟨gb, 0, none⟩), .pointer (some ⟨sb, 0, none⟩), .pointer (some ⟨ob, 0, none⟩)]]
  r : Rd w B A n 3 Fac.cells rs
  hB : B ≤ gb
  ng : gb ≠ ob
  ns : sb ≠ ob
section
variable {B gb sb ob : Nat} {A : Option Addr} {n c : Nat} {rs : List Fac} {w w' : World}
theorem SpE.next (h : SpE B gb sb ob A n c rs w) (hb : Below w.heap.size w w') : SpE B gb sb ob A n c rs w' :=
  ⟨h.g.next hb, h.s.next hb, h.r.next' (by have := h.g.lt; have := h.hB; omega) hb, h.hB, h.ng, h.ns⟩
theorem SpE.kb (h : SpE B gb sb ob A n c rs w) (hb : KB B 5 ob w w') : SpE B gb sb ob A n c rs w' :=
  ⟨h.g.kb hb (by decide) h.ng, h.s.kb hb (by decide) h.ns, h.r.below hb.b, h.hB, h.ng, h.ns⟩
end
set_option maxHeartbeats 2000000 in
set_option maxRecDepth 100000 in
theorem spell_any (B gb sb ob : Nat) (A : Option Addr) (n c : Nat) (rs : List Fac) (hwf : WF rs) (hn : n ≤ 1048576) : ∀ (r : Nat) (l : List UInt8) (w : World), r < n → SpE B gb sb ob A n c rs w → Bld B ob l w → l.length + ((wds rs).getD r []).length ≤ 1048576 →
    Calls Tryz.prog 96 #[.int .i64 (r : Int), .pointer (some ⟨gb, 0, none⟩), .pointer (some ⟨sb, 0, none⟩), .pointer (some ⟨ob, 0, none⟩)] w (fun e w' => e = .returned (.tuple #[]) ∧ KB B 5 ob w w' ∧ Bld B ob (l ++ txB ((wds rs).getD r [])) w') := by
  intro r
  induction r using Nat.strongRecOn with
  | ind r ih =>
    intro l w hr hE hB hl
    have IH := Lib.hid ih; clear ih
    have HE := Lib.hid hE
    have HB := Lib.hid hB
    have hBw : B ≤ w.heap.size := by have := hE.g.lt; have := hE.hB; omega
    obtain ⟨b, o, x, rfl, hB1, gx, c0, c1, c2⟩ := (hE.r.more hBw).fac hr
    have Gx := Lib.hid gx
    have g0 : w.cell? ⟨gb, 0, none⟩ = some (.slice (some ⟨b, o, none⟩) n c) := hE.g.cell 0
    have gl := hE.g.lt
    have i1 : (0 : Int) ≤ (r : Int) := by omega
    have i2 : (r : Int) < n := by omega
    have hlr := hE.r.len
    clear hE hB gx
    have et := enterOk Tryz.func96 (by kernel_rfl) (by kernel_rfl)
    unfold EnterOk at et
    go_enter Tryz.func96, Tryz.ntmps96
    go_wp2_with fail
    refine namedC fun w1 H1 => ?_
    have hb1 : Below w.heap.size w w1 := by rw [H1.out]; (repeat first | exact Below.refl _ _ | assumption | refine Below.drew ?_ | refine Below.alloc ?_ (by first | exact Nat.le_refl _ | (simp; done) | omega | (simp; omega)) _ | refine Below.setCell ?_ (by first | exact Nat.le_refl _ | (simp; done) | omega | (simp; omega)) _)
    have BX := Lib.hid (show Blk w1 w.heap.size 72 #[.string x.l, .int .i64 x.a, .int .i64 x.b] by rw [H1.out]; exact Blk.new _ _ _)
    clear H1
    obtain ⟨pb, hpb⟩ : ∃ pb, isP x = pb := ⟨_, rfl⟩
    refine (isPair_any x pb _ hpb).mono ?_
    rintro e w2 ⟨rfl, hb2⟩
    have b2 := Lib.hid (hb1.trans (hb2.mono hb1.size))
    have X2 := Lib.hid (BX.out.next hb2)
    have E2 := Lib.hid (HE.out.next b2.out)
    have B2 := Lib.hid (HB.out.next b2.out)
    have hBo := HB.out.lt
    have hs2 := b2.out.size
    have hx2 := X2.out.lt
    clear BX hb1 hb2 g0 gl c0 c1 c2 HE HB
    by_cases h0 : x.l.size = 0
    · obtain rfl : pb = true := by rw [← hpb]; simp [isP, h0]
      rcases hwf r x Gx.out with ⟨_, a0, a1, p0, p1⟩ | ⟨ch, _, q, _⟩
      rotate_left
      · rw [q] at h0; exact absurd h0 (show ¬ (1 : Nat) = 0 by omega)
      have hw := wds_pair hwf Gx.out h0
      obtain ⟨a, hae⟩ : ∃ a : Nat, x.a = a := ⟨x.a.toNat, by omega⟩
      obtain ⟨p, hpe⟩ : ∃ p : Nat, x.b = p := ⟨x.b.toNat, by omega⟩
      rw [hae, hpe, Int.toNat_natCast, Int.toNat_natCast] at hw
      rw [hae, hpe] at X2
      have hlen : ((wds rs).getD r []).length = ((wds rs).getD a []).length + ((wds rs).getD p []).length := by rw [hw, List.length_append]
      have x1 : w2.cell? ⟨w.heap.size, 1, none⟩ = some (.int .i64 (a : Int)) := X2.out.cell 1
      have s0 : w2.cell? ⟨sb, 0, none⟩ = some (.func (.func 96) #[] #[.pointer (some ⟨gb, 0, none⟩), .pointer (some ⟨sb, 0, none⟩), .pointer (some ⟨ob, 0, none⟩)]) := E2.out.s.cell 0
      have sl := E2.out.s.lt
      go_wp2_with fail
      refine (IH.out a (by omega) l w2 (by omega) E2.out B2.out (by omega)).mono ?_
      rintro e w3 ⟨rfl, hk3, hB3⟩
      have K3 := Lib.hid ((KB.below b2.out hBw (T := 5) (ob := ob)).trans hk3)
      have X3 := Lib.hid (X2.out.kb hk3 (by decide) (by omega))
      have E3 := Lib.hid (E2.out.kb hk3)
      have B3 := Lib.hid hB3
      clear hk3 hB3 E2 B2 X2 x1 s0 sl
      have x2 : w3.cell? ⟨w.heap.size, 2, none⟩ = some (.int .i64 (p : Int)) := X3.out.cell 2
      have s0 : w3.cell? ⟨sb, 0, none⟩ = some (.func (.func 96) #[] #[.pointer (some ⟨gb, 0, none⟩), .pointer (some ⟨sb, 0, none⟩), .pointer (some ⟨ob, 0, none⟩)]) := E3.out.s.cell 0
      have sl := E3.out.s.lt
      have xl := X3.out.lt
      go_wp2_with fail
      refine (IH.out p (by omega) (l ++ txB ((wds rs).getD a [])) w3 (by omega) E3.out B3.out (by rw [List.length_append, txB_lenU]; omega)).mono ?_
      rintro e w4 ⟨rfl, hk4, hB4⟩
      have K4 := Lib.hid (K3.out.trans hk4)
      have B4 := Lib.hid hB4
      clear hk4 hB4
      go_wp2_with fail
      go_end0
      exact ⟨rfl, K4.out, by rw [hw, txB_appU, ← List.append_assoc]; exact B4.out⟩
    · obtain rfl : pb = false := by rw [← hpb]; simp [isP, h0]
      rcases hwf r x Gx.out with ⟨q, _⟩ | ⟨ch, hch, q, _, _⟩
      · exact absurd q h0
      have hw := wds_one Gx.out q
      have x0 : w2.cell? ⟨w.heap.size, 0, none⟩ = some (.string x.l) := X2.out.cell 0
      have hlt := letB_num hch
      have htx : txB ((wds rs).getD r []) = [ch] := by
        rw [hw]
        unfold txB
        simp only [List.map_cons, List.map_nil]
        rw [show 97 + (ch.toNat - 97) = ch.toNat by omega]
        simp
      have hll : l.length + 1 ≤ 1048576 := by rw [hw] at hl; exact hl
      have WR := Lib.hid (bWriteK_any B ob l ⟨#[ch]⟩ w2 B2.out (by show l.length + 1 ≤ _; omega) (by omega))
      rw [q] at X2 x0
      go_wp2_with fail
      refine WR.out.mono ?_
      rintro e w3 ⟨rfl, hk3, hB3⟩
      have K3 := Lib.hid ((KB.below b2.out hBw (T := 5) (ob := ob)).trans hk3)
      have B3 := Lib.hid hB3
      clear hk3 hB3
      go_wp2_with fail
      go_end0
      exact ⟨rfl, K3.out, by rw [htx]; exact B3.out⟩
set_option maxHeartbeats 1000000 in
set_option maxRecDepth 100000 in
theorem unpack_any (A : Option Addr) (n c : Nat) (rs : List Fac) (A2 : Option Addr) (c2 : Nat) (ls : List Int) (i j : Nat) (w : World) (hn : n ≤ 1048576) (hr : Rd w w.heap.size A n 3 Fac.cells rs) (hls : gLens rs [] = some ls) (h2 : Rd w w.heap.size A2 n 1 intE ls) (hij : i ≤ j) (hj : j ≤ (wdN rs).length) (hm : j - i ≤ 1048576) :
    Calls Tryz.prog 83 #[.agg #[.slice A n c], .slice A2 n c2, .int .i64 (i : Int), .int .i64 (j : Int)] w (Ret (.string (tx (((wdN rs).take j).drop i))) w) := by
  have hl := hr.len
  have hwf := wf_of hls
  have hwd := pcsT_words hls hij
  have HR := Lib.hid hr
  have H2 := Lib.hid h2
  have HL := Lib.hid hls
  clear hr h2 hls
  go_enter Tryz.func83, Tryz.ntmps83
  go_wp2_with fail
  refine namedC fun w1 H1 => ?_
  have hb1 : Below w.heap.size w w1 := by rw [H1.out]; (repeat first | exact Below.refl _ _ | assumption | refine Below.drew ?_ | refine Below.alloc ?_ (by first | exact Nat.le_refl _ | (simp; done) | omega | (simp; omega)) _ | refine Below.setCell ?_ (by first | exact Nat.le_refl _ | (simp; done) | omega | (simp; omega)) _)
  have BO := Lib.hid (show Blk w1 (w.heap.size + 1) 55 #[.pointer none, .slice none 0 0] by rw [H1.out]; simpa using (Blk.new (w.alloc _) _ _).alloc _)
  have BG := Lib.hid (show Blk w1 w.heap.size 31 #[.slice A n c] by rw [H1.out]; exact ((Blk.new w _ _).alloc _).alloc _)
  have BS := Lib.hid (show Blk w1 (w.heap.size + 1 + 1) 146 #[.func (.func 96) #[] #[.pointer (some ⟨w.heap.size, 0, none⟩), .pointer (some ⟨w.heap.size + 1 + 1, 0, none⟩), .pointer (some ⟨w.heap.size + 1, 0, none⟩)]] by
    rw [H1.out]; simpa using Blk.new ((w.alloc _).alloc _) _ _)
  have hzo := BO.out.lt
  have hzs := BS.out.lt
  clear H1
  have hsub : ∀ (d : List Nat) (k : Nat) (q : List Nat), pcsT ls rs i j = d ++ k :: q → (txB (wdsOf rs d)).length + ((wds rs).getD k []).length ≤ 1048576 := fun d k q e => by
    have h1 : (wdsOf rs (pcsT ls rs i j)).length ≤ j - i := by rw [hwd, List.length_drop, List.length_take]; omega
    rw [e, wdsOf_app, show k :: q = [k] ++ q from rfl, wdsOf_app, wdsOf_one, List.length_append, List.length_append] at h1
    rw [txB_lenU]; omega
  have hp := piecesK_any (fun q w' => (∃ d, pcsT ls rs i j = d ++ q ∧ Bld w.heap.size (w.heap.size + 1) (txB (wdsOf rs d)) w') ∧ SpE w.heap.size w.heap.size (w.heap.size + 1 + 1) (w.heap.size + 1) A n c rs w')
    (fun q wa wb h hb => ⟨by obtain ⟨d, e, h⟩ := h.1; exact ⟨d, e, h.next hb⟩, h.2.next hb⟩)
    w.heap.size (w.heap.size + 1) w1.heap.size (by omega) hzo A n c rs A2 c2 ls (i : Int) (j : Int) 96 (enterOk Tryz.func96 (by kernel_rfl) (by kernel_rfl)) #[.pointer (some ⟨w.heap.size, 0, none⟩), .pointer (some ⟨w.heap.size + 1 + 1, 0, none⟩), .pointer (some ⟨w.heap.size + 1, 0, none⟩)] hn HL.out
    (fun q k wa hk h => by
      obtain ⟨⟨d, e, hB⟩, hE⟩ := h
      have hc := spell_any w.heap.size w.heap.size (w.heap.size + 1 + 1) (w.heap.size + 1) A n c rs hwf hn k (txB (wdsOf rs d)) wa hk hE hB (hsub d k q e)
      refine (by simpa using hc : Calls _ _ _ _ _).mono ?_
      rintro e' w' ⟨rfl, hk', hB'⟩
      exact ⟨rfl, hk', ⟨d ++ [k], by rw [e, List.append_assoc]; rfl, by rw [wdsOf_app, wdsOf_one, txB_appU]; exact hB'⟩, hE.kb hk'⟩)
    [] w1 rfl (HR.out.below hb1) (H2.out.below hb1) ⟨⟨[], by simp, Bld.fresh (by omega) BO.out⟩, ⟨BG.out, BS.out, HR.out.below hb1, Nat.le_refl _, by omega, by omega⟩⟩
  refine hp.mono ?_
  rintro e w2 ⟨rfl, hk2, ⟨d, hd, hB2⟩, _⟩
  rw [List.append_nil] at hd
  rw [← hd, hwd] at hB2
  have b2 := Lib.hid (hb1.trans hk2.b)
  have HSt := Lib.hid (Tryz.Builder_String_any w.heap.size (w.heap.size + 1) _ w2 hB2 b2.out.size)
  have htx : (⟨(txB (((wdN rs).take j).drop i)).toArray⟩ : ByteArray) = tx (((wdN rs).take j).drop i) := rfl
  rw [htx] at HSt
  generalize tx (((wdN rs).take j).drop i) = T at *
  clear hp hd hB2 hk2 BO BS BG hsub hwd htx
  go_wp2_with fail
  refine HSt.out.mono ?_
  rintro e w3 ⟨rfl, hb3⟩
  have b3 := Lib.hid (b2.out.trans hb3)
  clear hb3
  go_wp2_with fail
  go_ret
  exact ⟨rfl, b3.out⟩
end Go.Proofs.YtmdmgndhapdmgaaGreat


/-
  Parts of words and words, in the program.
-/

namespace Go.Proofs.YtmdmgndhapdmgaaGreat
open Go.RowKit

theorem wf_szU {rs : List Fac} (hwf : WF rs) : ∀ f ∈ rs, f.l.size ≤ maxLen := fun f hf => by
  obtain ⟨k, hk, rfl⟩ := List.getElem_of_mem hf
  rcases hwf k _ (List.getElem?_eq_getElem hk) with ⟨q, _⟩ | ⟨ch, _, q, _⟩
  · unfold maxLen; omega
  · rw [q]; show (1 : Nat) ≤ maxLen; unfold maxLen; omega
theorem lastI_inU {rs : List Fac} {ls : List Int} (hls : gOk rs = some ls) : 0 ≤ lastI ls ∧ lastI ls ≤ 1000000000000000 := by
  obtain ⟨hgl, _, hl⟩ := gOk_lens hls
  unfold lastI
  by_cases h0 : rs.length = 0
  · rw [List.eq_nil_of_length_eq_zero (hl.trans h0)]; show (0 : Int) ≤ 0 ∧ (0 : Int) ≤ 1000000000000000; omega
  · have := lens_bound hgl (i := ls.length - 1) (by omega)
    omega
set_option maxHeartbeats 1000000 in
set_option maxRecDepth 100000 in
theorem unpackPart_any (A : Option Addr) (n c : Nat) (rs : List Fac) (ls : List Int) (i j : Nat) (w : World) (hr : Rd w w.heap.size A n 3 Fac.cells rs) (hls : gOk rs = some ls) (hij : i ≤ j) (hj : j ≤ (wdN rs).length) (hm : j - i ≤ 2000) :
    Calls Tryz.prog 51 #[.agg #[.slice A n c], .int .i64 (i : Int), .int .i64 (j : Int)] w (Ret (.tuple #[.string (tx (((wdN rs).take j).drop i)), .int .i64 0]) w) := by
  have HR := Lib.hid hr
  have hl := hr.len
  obtain ⟨hgl, h400, hlen⟩ := gOk_lens hls
  have HO := wf_szU (wf_of hgl)
  have hlast := last_word hgl
  have hlb := lastI_inU hls
  have UN := Lib.hid (fun (L : Option Addr) (cl : Nat) W (h : Below w.heap.size w W) (h2 : Rd W W.heap.size L n 1 intE ls) => unpack_any A n c rs L cl ls i j W (by omega) (HR.out.next h) hgl h2 hij hj (by omega))
  generalize tx (((wdN rs).take j).drop i) = T at *
  have hjl : (j : Int) ≤ lastI ls := by omega
  have hll : ls.length = n := by omega
  have LA := Lib.hid (fun (L : Option Addr) (cl : Nat) W (h : Rd W W.heap.size L n 1 intE ls) => last_any L n cl ls W (by omega) h)
  generalize lastI ls = la at *
  go_enter Tryz.func51, Tryz.ntmps51
  go_wp2_with fail
  refine namedC fun w0 H0 => ?_
  have hb0 : Below w.heap.size w w0 := by rw [H0.out]; (repeat first | exact Below.refl _ _ | assumption | refine Below.drew ?_ | refine Below.alloc ?_ (by first | exact Nat.le_refl _ | (simp; done) | omega | (simp; omega)) _ | refine Below.setCell ?_ (by first | exact Nat.le_refl _ | (simp; done) | omega | (simp; omega)) _)
  have BG := Lib.hid (show Blk w0 w.heap.size 31 #[.slice A n c] by rw [H0.out]; exact Blk.new _ _ _)
  clear H0
  refine (lengths_any A n c rs w0 (by omega) (HR.out.next hb0) HO).mono ?_
  rintro e w1 ⟨hb1, ⟨ls', L, cl, hgl', rfl, own1⟩ | ⟨hgl', _⟩⟩
  case inr => exfalso; rw [hgl'] at hls; cases hls
  obtain rfl : ls = ls' := by rw [hgl'] at hls; exact (Option.some.inj hls).symm
  rw [hll] at own1 ⊢
  have b1 := Lib.hid (hb0.trans (hb1.mono hb0.size))
  have r1 := Lib.hid (Rd.of_own (enc := intE) (fun _ _ => rfl) hll own1)
  have BG1 := Lib.hid (BG.out.next hb1)
  clear own1 hb1 hb0 BG hls hgl' hgl
  have hW := Lib.hid (fun W => within_any (i : Int) 0 (j : Int) true W (by simp only [inB, Bool.and_eq_true, decide_eq_true_eq]; omega))
  have g1 : w1.cell? ⟨w.heap.size, 0, none⟩ = some (.slice A n c) := BG1.out.cell 0
  have gl1 := BG1.out.lt
  go_wp2_with fail
  refine (hW.out _).mono ?_
  rintro e w2 ⟨rfl, hb2⟩
  have b2 := Lib.hid (b1.out.trans (hb2.mono b1.out.size))
  have r2 := Lib.hid (r1.out.next hb2)
  have BG2 := Lib.hid (BG1.out.next hb2)
  clear hb2 g1 gl1 BG1 r1 b1
  go_wp2_with fail
  refine (LA.out L cl w2 r2.out).mono ?_
  rintro e w3 ⟨rfl, hb3⟩
  have b3 := Lib.hid (b2.out.trans (hb3.mono b2.out.size))
  have r3 := Lib.hid (r2.out.next hb3)
  have BG3 := Lib.hid (BG2.out.next hb3)
  clear hb3 BG2 r2 b2
  have g3 : w3.cell? ⟨w.heap.size, 0, none⟩ = some (.slice A n c) := BG3.out.cell 0
  have gl3 := BG3.out.lt
  have n1 : ¬ la < (j : Int) := by omega
  have u1 : IntKind.i64.wrap ((j : Int) - i) = (j : Int) - i := IntWalk.i64_in _ (by omega)
  have n2 : ¬ (2000 : Int) < (j : Int) - i := by omega
  go_wp2_with fail
  refine (UN.out L cl w3 b3.out r3.out).mono ?_
  rintro e w4 ⟨rfl, hb4⟩
  have b4 := Lib.hid (b3.out.trans (hb4.mono b3.out.size))
  clear hb4
  go_wp2_with fail
  go_ret2
  exact ⟨rfl, b4.out⟩
set_option maxHeartbeats 1000000 in
set_option maxRecDepth 100000 in
theorem implLength_any (A : Option Addr) (n c : Nat) (rs : List Fac) (ls : List Int) (w : World) (hr : Rd w w.heap.size A n 3 Fac.cells rs) (hls : gOk rs = some ls) :
    Calls Tryz.prog 17 #[.agg #[.slice A n c]] w (Ret (.tuple #[.int .i64 ((wdN rs).length : Int), .int .i64 0]) w) := by
  have HR := Lib.hid hr
  have hl := hr.len
  obtain ⟨hgl, h400, hlen⟩ := gOk_lens hls
  have HO := wf_szU (wf_of hgl)
  have hll : ls.length = n := by omega
  have LA := Lib.hid (fun (L : Option Addr) (cl : Nat) W (h : Rd W W.heap.size L n 1 intE ls) => last_any L n cl ls W (by omega) h)
  rw [last_word hgl] at LA
  generalize ((wdN rs).length : Int) = la at *
  go_enter Tryz.func17, Tryz.ntmps17
  go_wp2_with fail
  refine namedC fun w0 H0 => ?_
  have hb0 : Below w.heap.size w w0 := by rw [H0.out]; (repeat first | exact Below.refl _ _ | assumption | refine Below.drew ?_ | refine Below.alloc ?_ (by first | exact Nat.le_refl _ | (simp; done) | omega | (simp; omega)) _ | refine Below.setCell ?_ (by first | exact Nat.le_refl _ | (simp; done) | omega | (simp; omega)) _)
  clear H0
  refine (lengths_any A n c rs w0 (by omega) (HR.out.next hb0) HO).mono ?_
  rintro e w1 ⟨hb1, ⟨ls', L, cl, hgl', rfl, own1⟩ | ⟨hgl', _⟩⟩
  case inr => exfalso; rw [hgl'] at hls; cases hls
  obtain rfl : ls = ls' := by rw [hgl'] at hls; exact (Option.some.inj hls).symm
  rw [hll] at own1 ⊢
  have b1 := Lib.hid (hb0.trans (hb1.mono hb0.size))
  have r1 := Lib.hid (Rd.of_own (enc := intE) (fun _ _ => rfl) hll own1)
  clear own1 hb1 hb0 hls hgl' hgl
  go_wp2_with fail
  refine (LA.out L cl w1 r1.out).mono ?_
  rintro e w3 ⟨rfl, hb3⟩
  have b3 := Lib.hid (b1.out.trans (hb3.mono b1.out.size))
  clear hb3
  go_wp2_with fail
  go_ret2
  exact ⟨rfl, b3.out⟩
set_option maxHeartbeats 1000000 in
set_option maxRecDepth 100000 in
theorem unpackWI_any (A : Option Addr) (n c : Nat) (rs : List Fac) (ls : List Int) (w : World) (hr : Rd w w.heap.size A n 3 Fac.cells rs) (hls : gOk rs = some ls) (hm : (wdN rs).length ≤ 2000) :
    Calls Tryz.prog 15 #[.agg #[.slice A n c]] w (Ret (.tuple #[.string (tx (wdN rs)), .int .i64 0]) w) := by
  have HR := Lib.hid hr
  have LE := Lib.hid (fun W (h : Below w.heap.size w W) => implLength_any A n c rs ls W (HR.out.next h) hls)
  have UP := Lib.hid (fun W (h : Below w.heap.size w W) => unpackPart_any A n c rs ls 0 (wdN rs).length W (HR.out.next h) hls (by omega) (by omega) (by omega))
  rw [List.take_length, List.drop_zero] at UP
  generalize tx (wdN rs) = T at *
  generalize (wdN rs).length = la at *
  go_enter Tryz.func15, Tryz.ntmps15
  go_wp2_with fail
  refine namedC fun w0 H0 => ?_
  have hb0 : Below w.heap.size w w0 := by rw [H0.out]; (repeat first | exact Below.refl _ _ | assumption | refine Below.drew ?_ | refine Below.alloc ?_ (by first | exact Nat.le_refl _ | (simp; done) | omega | (simp; omega)) _ | refine Below.setCell ?_ (by first | exact Nat.le_refl _ | (simp; done) | omega | (simp; omega)) _)
  have BG := Lib.hid (show Blk w0 w.heap.size 31 #[.slice A n c] by rw [H0.out]; exact Blk.new _ _ _)
  clear H0
  refine (LE.out w0 hb0).mono ?_
  rintro e w1 ⟨rfl, hb1⟩
  have b1 := Lib.hid (hb0.trans (hb1.mono hb0.size))
  have BG1 := Lib.hid (BG.out.next hb1)
  clear hb1 hb0 BG
  have g1 : w1.cell? ⟨w.heap.size, 0, none⟩ = some (.slice A n c) := BG1.out.cell 0
  have gl1 := BG1.out.lt
  go_wp2_with fail
  refine (UP.out w1 b1.out).mono ?_
  rintro e w3 ⟨rfl, hb3⟩
  have b3 := Lib.hid (b1.out.trans (hb3.mono b1.out.size))
  clear hb3
  go_wp2_with fail
  go_ret2
  exact ⟨rfl, b3.out⟩
end Go.Proofs.YtmdmgndhapdmgaaGreat


/-
  The length of a code, told by the program.
-/
namespace Go.Proofs.YtmdmgndhapdmgaaGreat
open Go.RowKit

def clnV (z : Int) : Int × Int := if 1000000000000000 < z then (0, 3) else (z, 0)
set_option maxHeartbeats 1000000 in
set_option maxRecDepth 100000 in
theorem codedLen_any (S q : Nat) (N O : Option Addr) (cn co : Nat) (nh oh : List RowH) (nx : List (List Int)) (ot : List (List ByteArray)) (G : Option Addr) (n c : Nat) (rs : List Fac) (ls : List Int) (w : World) (hS : 1 ≤ S) (hS2 : S ≤ 24) (hq : q < S) (hn : n ≤ 1048576)
    (hx : RdT w w.heap.size N S intE nh nx) (ho : RdT w w.heap.size O S strEM oh ot) (hok : NxOk S nx) (hot : OtOk S ot) (hc : cdB (S : Int) (q : Int) nx ot = true) (hr : Rd w w.heap.size G n 3 Fac.cells rs) (hg : gOk rs = some ls) (hrz : ∀ f ∈ rs, f.l.size ≤ maxLen) :
    Calls Tryz.prog 12 #[.agg #[.int .i64 (S : Int), .int .i64 (q : Int), .slice N S cn, .slice O S co], .agg #[.slice G n c]] w (Ret (.tuple #[.int .i64 (clnV (codN nx ot q rs)).1, .int .i64 (clnV (codN nx ot q rs)).2]) w) := by
  have hxz : ∀ r ∈ nx, r.length ≤ 1048576 := fun r hr => by rw [(hok.row r hr).1]; omega
  have hoz : ∀ r ∈ ot, r.length ≤ 1048576 ∧ ∀ t ∈ r, t.size ≤ maxLen := fun r hr => ⟨by rw [(hot.row r hr).1]; omega, fun t ht => by have := ((hot.row r hr).2 t ht).2; unfold maxLen; omega⟩
  have hls := (gOk_lens hg).1
  have HN := Lib.hid hx; have HO := Lib.hid ho; have HR := Lib.hid hr
  have VC := Lib.hid (fun W (h : Below w.heap.size w W) => validCoder_any (S : Int) (q : Int) N O S cn S co nh oh nx ot W (by omega) (by omega) (HN.out.next h) (HO.out.next h) hxz hoz true hc)
  have VG := Lib.hid (fun W (h : Below w.heap.size w W) => validG_any G n c rs W (by omega) (HR.out.next h) hrz true (by rw [hg]; rfl))
  have CL := Lib.hid (fun W (h : Below w.heap.size w W) => codedLength_any S q N O cn co nh oh nx ot G n c rs ls W hS hS2 hq hn (HN.out.next h) (HO.out.next h) hok hot (HR.out.next h) hls)
  have hci := codN_in hok hot hls hq
  have start : ∀ w3, Hid (w3 = (w.alloc (.cells #[.int .i64 (S : Int), .int .i64 (q : Int), .slice N S cn, .slice O S co] 27)).alloc (.cells #[.slice G n c] 31)) → Below w.heap.size w w3 ∧ Blk w3 w.heap.size 27 #[.int .i64 (S : Int), .int .i64 (q : Int), .slice N S cn, .slice O S co] ∧ Blk w3 (w.heap.size + 1) 31 #[.slice G n c] := fun w3 H3 => by
    rw [H3.out]
    refine ⟨by (repeat first | exact Below.refl _ _ | assumption | refine Below.drew ?_ | refine Below.alloc ?_ (by first | exact Nat.le_refl _ | (simp; done) | omega | (simp; omega)) _ | refine Below.setCell ?_ (by first | exact Nat.le_refl _ | (simp; done) | omega | (simp; omega)) _), (Blk.new _ _ _).alloc _, ?_⟩
    simpa using Blk.new (w.alloc (.cells #[.int .i64 (S : Int), .int .i64 (q : Int), .slice N S cn, .slice O S co] 27)) 31 #[.slice G n c]
  have Start := Lib.hid start
  clear start hx ho hok hot hc hr hg hrz hls
  generalize codN nx ot q rs = z at *
  by_cases hz : 1000000000000000 < z
  · have e : clnV z = (0, 3) := by unfold clnV; rw [if_pos hz]
    rw [e]
    clear e
    go_enter Tryz.func12, Tryz.ntmps12
    go_upto_region 1 with fail
    refine named fun w3 H3 => ?_
    obtain ⟨b3, BK, BG⟩ := Start.out w3 H3
    clear H3
    obtain ⟨k0, k1, k2, k3⟩ := BK.four
    have kl := BK.lt
    go_wp2_with fail
    refine (VC.out _ b3).mono ?_
    rintro e w4 ⟨rfl, hb4⟩
    have b4 := b3.trans (hb4.mono b3.size)
    have BK4 := BK.next hb4
    have BG4 := BG.next hb4
    clear k0 k1 k2 k3 kl BK BG
    have g0 := BG4.cell 0
    have gl := BG4.lt
    go_wp2_with fail
    refine (VG.out _ b4).mono ?_
    rintro e w5 ⟨rfl, hb5⟩
    have b5 := b4.trans (hb5.mono b4.size)
    have BK5 := BK4.next hb5
    have BG5 := BG4.next hb5
    clear g0 gl BK4 BG4
    obtain ⟨k0, k1, k2, k3⟩ := BK5.four
    have kl := BK5.lt
    have g0 := BG5.cell 0
    have gl := BG5.lt
    go_wp2_with fail
    refine (CL.out _ b5).mono ?_
    rintro e w6 ⟨rfl, hb6⟩
    go_wp2_with fail
    exact bodyPost_ret (v := .tuple #[.int .i64 0, .int .i64 3]) (by simp [results, Tryz.results12, go_sem]) rfl ⟨rfl, b5.trans (hb6.mono b5.size)⟩
  · have e : clnV z = (z, 0) := by unfold clnV; rw [if_neg hz]
    rw [e]
    clear e
    go_enter Tryz.func12, Tryz.ntmps12
    go_upto_region 1 with fail
    refine named fun w3 H3 => ?_
    obtain ⟨b3, BK, BG⟩ := Start.out w3 H3
    clear H3
    obtain ⟨k0, k1, k2, k3⟩ := BK.four
    have kl := BK.lt
    go_wp2_with fail
    refine (VC.out _ b3).mono ?_
    rintro e w4 ⟨rfl, hb4⟩
    have b4 := b3.trans (hb4.mono b3.size)
    have BK4 := BK.next hb4
    have BG4 := BG.next hb4
    clear k0 k1 k2 k3 kl BK BG
    have g0 := BG4.cell 0
    have gl := BG4.lt
    go_wp2_with fail
    refine (VG.out _ b4).mono ?_
    rintro e w5 ⟨rfl, hb5⟩
    have b5 := b4.trans (hb5.mono b4.size)
    have BK5 := BK4.next hb5
    have BG5 := BG4.next hb5
    clear g0 gl BK4 BG4
    obtain ⟨k0, k1, k2, k3⟩ := BK5.four
    have kl := BK5.lt
    have g0 := BG5.cell 0
    have gl := BG5.lt
    go_wp2_with fail
    refine (CL.out _ b5).mono ?_
    rintro e w6 ⟨rfl, hb6⟩
    go_wp2_with fail
    exact bodyPost_ret (v := .tuple #[.int .i64 z, .int .i64 0]) (by simp [results, Tryz.results12, go_sem]) rfl ⟨rfl, b5.trans (hb6.mono b5.size)⟩
end Go.Proofs.YtmdmgndhapdmgaaGreat


/-
  The letters of a grammar's word, in the reference.
-/
namespace Go.Proofs.YtmdmgndhapdmgaaGreat
open Go.RowKit

def lt8 (u : List Nat) (i : Nat) : Value := .int .u8 ((97 + u.getD i 0 : Nat) : Int)
theorem wds_get_pair {rs : List Fac} (hwf : WF rs) {k : Nat} {r : Fac} (h : rs[k]? = some r) (h0 : r.l.size = 0) : (wds rs).getD k [] = (wds rs).getD r.a.toNat [] ++ (wds rs).getD r.b.toNat [] := full_pair [] wdF wdG hwf h h0
theorem wds_get_let {rs : List Fac} {k : Nat} {r : Fac} (h : rs[k]? = some r) {c : UInt8} (hl : r.l = ⟨#[c]⟩) : (wds rs).getD k [] = [c.toNat - 97] := by
  have := full_let [] wdF wdG h (by rw [hl]; show (1 : Nat) ≠ 0; omega)
  rw [hl] at this
  exact this
set_option maxHeartbeats 2000000 in
set_option maxRecDepth 100000 in
theorem l02Letter_any (gb : Nat) (A : Option Addr) (n c : Nat) (rs : List Fac) (B : Option Addr) (m d : Nat) (ls : List Int) (i : Nat) (w : World) (hg : gb < w.heap.size) (hc : w.cell? ⟨gb, 0, none⟩ = some (.slice A n c)) (hn4 : n ≤ 400)
    (hr : Rd w w.heap.size A n 3 Fac.cells rs) (hl : Rd w w.heap.size B m 1 intE ls) (hls : gLens rs [] = some ls) (hi : i < (wdN rs).length) (hi4 : i ≤ 1000000000000000) :
    Calls Tryz.prog 61 #[.pointer (some ⟨gb, 0, none⟩), .slice B m d, .int .i64 i] w (Ret (lt8 (wdN rs) i) w) := by
  have hwf := Lib.hid (wf_of hls)
  have HN := Lib.hid hr.len
  have hne : rs ≠ [] := by intro e; rw [e] at hi; simp [wdN] at hi
  have hn0 : 0 < n := by rw [← HN.out]; exact List.length_pos_iff.2 hne
  have hml := gLens_len rs [] ls hls
  simp only [List.length_nil, Nat.zero_add] at hml
  have HM := Lib.hid (show m = n by rw [← hl.len, hml, HN.out])
  have HI := Lib.hid hi
  have HS := Lib.hid (show ((wds rs).getD (n - 1) [])[i]? = (wdN rs)[i]? by unfold wdN; rw [if_neg hne, HN.out])
  have HL := Lib.hid hl
  have HR := Lib.hid hr
  have HLs := Lib.hid hls
  obtain ⟨q, hq⟩ : ∃ q, n - 1 = q := ⟨_, rfl⟩
  have hqn : q < n := by omega
  have um : IntKind.i64.wrap ((n : Int) - 1) = (q : Int) := by rw [IntWalk.i64_in _ (by omega)]; omega
  rw [hq] at HS
  clear hr hl hls hi hml hq
  go_enter Tryz.func61, Tryz.ntmps61
  go_wp2_with fail
  clear um
  go_loop [2, 7] (fun i_ at_ => ∃ (a j : Nat), at_ = .int .i64 a ∧ i_ = .int .i64 j ∧ a < n ∧ j ≤ i ∧ Hid (((wds rs).getD a [])[j]? = (wdN rs)[i]?)) (fun _ at_ => (intOf at_).toNat)
  case atStart => exact ⟨q, i, rfl, rfl, hqn, Nat.le_refl _, HS⟩
  case round =>
    obtain ⟨a, j, rfl, rfl, ha, hj, H⟩ := hrel
    clear HS
    obtain ⟨b, o, x, rfl, hB, gx, c0, c1, c2⟩ := HR.out.fac ha
    have Gx := Lib.hid gx
    have i0 : (0 : Int) ≤ (a : Int) := by omega
    have i1 : (a : Int) < (n : Int) := by omega
    have hjl : j < ((wds rs).getD a []).length := by
      have h1 := H.out
      rw [List.getElem?_eq_getElem HI.out] at h1
      exact (List.getElem?_eq_some_iff.1 h1).1
    have HJ := Lib.hid hjl
    clear gx hjl
    rcases hwf.out a x Gx.out with ⟨h0, ha0, ha1, hb0, hb1⟩ | ⟨cc, hcc, hxl, hxa, hxb⟩
    · have e0 := size0 h0
      obtain ⟨l, hle⟩ : ∃ l : Nat, x.a = l := ⟨x.a.toNat, by omega⟩
      obtain ⟨r, hre⟩ : ∃ r : Nat, x.b = r := ⟨x.b.toNat, by omega⟩
      have hw := wds_get_pair hwf.out Gx.out h0
      rw [hle, hre, Int.toNat_natCast, Int.toNat_natCast] at hw
      have HW := Lib.hid hw
      rw [hle] at c1 ha1
      rw [hre] at c2 hb1
      obtain ⟨b', o', y, rfl, hB', gy, d0⟩ := (show Rd w w.heap.size B m 1 (fun s => [.int .i64 s]) ls from HL.out).int (show l < m by rw [HM.out]; omega)
      have hy : y = (((wds rs).getD l []).length : Int) := by
        have := lens_word HLs.out (k := l) (by have := HN.out; omega)
        rw [List.getD_eq_getElem?_getD, gy] at this
        exact this
      have Hy := Lib.hid hy
      obtain ⟨L, hL⟩ : ∃ L, ((wds rs).getD l []).length = L := ⟨_, rfl⟩
      rw [hL] at hy
      have HLl := Lib.hid hL
      subst hy
      have l0 : (0 : Int) ≤ (l : Int) := by omega
      have l1 : (l : Int) < (m : Int) := by have := HM.out; omega
      clear hw hle hre ha0 hb0 gy hL h0
      by_cases hjL : j < L
      · have c3 : (j : Int) < (L : Int) := by omega
        go_wp2_with fail
        go_round
        case rel => exact ⟨l, j, rfl, rfl, by omega, hj, Lib.hid (by rw [← H.out, HW.out, List.getElem?_append_left (by rw [HLl.out]; exact hjL)])⟩
        case measure => simp [intOf]; omega
      · have c3 : ¬ (j : Int) < (L : Int) := by omega
        have um : IntKind.i64.wrap ((j : Int) - (L : Int)) = ((j - L : Nat) : Int) := by rw [IntWalk.i64_in _ (by omega)]; omega
        go_wp2_with fail
        go_round
        case rel => exact ⟨r, j - L, rfl, by go_num, by omega, by omega, Lib.hid (by rw [← H.out, HW.out, List.getElem?_append_right (by rw [HLl.out]; omega), HLl.out])⟩
        case measure => simp [intOf]; omega
    · have hw := wds_get_let Gx.out hxl
      have hj0 : j = 0 := by
        have := HJ.out
        rw [hw] at this
        simp at this; exact this
      have hlet := letB_num hcc
      have hv : (97 + (wdN rs).getD i 0 : Nat) = cc.toNat := by
        have h1 := H.out
        rw [hw, hj0] at h1
        rw [List.getD_eq_getElem?_getD, ← h1]
        simp; omega
      have HV := Lib.hid (show lt8 (wdN rs) i = .int .u8 (cc.toNat : Int) by unfold lt8; rw [hv])
      obtain ⟨xl, xa, xb⟩ := x
      simp only at hxl hxa hxb c0 c1 c2
      subst hxl hxa hxb
      have e1 := size1 (s := ⟨#[cc]⟩) (show (1 : Nat) ≠ 0 by omega)
      have e2 := size1' (s := ⟨#[cc]⟩) (show (1 : Nat) ≠ 0 by omega)
      clear hw hv hcc hlet
      go_wp2_with fail
      go_ret
      rw [HV.out]
      exact ⟨rfl, Below.refl _ _⟩
end Go.Proofs.YtmdmgndhapdmgaaGreat


/-
  A grammar unpacked, in the reference.
-/
namespace Go.Proofs.YtmdmgndhapdmgaaGreat
open Go.RowKit

/-- letters as bytes -/
theorem byteE_let (u : List Nat) (i : Nat) (h : ∀ x ∈ u, x < 4) : [lt8 u i] = byteE (UInt8.ofNat (97 + u.getD i 0)) := by
  have hb : u.getD i 0 < 4 := by
    rw [List.getD_eq_getElem?_getD]
    cases e : u[i]? with
    | none => simp
    | some x => exact h x (List.mem_of_getElem? e)
  have e : (UInt8.ofNat (97 + u.getD i 0)).toNat = 97 + u.getD i 0 := by rw [UInt8.toNat_ofNat']; omega
  unfold lt8 byteE
  rw [e]
theorem txB_snoc (u : List Nat) {i : Nat} (hi : i < u.length) : txB (u.take i) ++ [UInt8.ofNat (97 + u.getD i 0)] = txB (u.take (i + 1)) := by
  rw [List.take_succ_eq_append_getElem hi]
  unfold txB
  rw [List.map_append, List.getD_eq_getElem?_getD, List.getElem?_eq_getElem hi]; rfl
theorem txB_len (u : List Nat) : (txB u).length = u.length := by simp [txB]
set_option maxHeartbeats 2000000 in
set_option maxRecDepth 100000 in
/-- the whole word -/
theorem l02Unpack_any (gb : Nat) (A : Option Addr) (n c : Nat) (rs : List Fac) (ls : List Int) (w : World) (hg : gb < w.heap.size) (hc : w.cell? ⟨gb, 0, none⟩ = some (.slice A n c)) (hr : Rd w w.heap.size A n 3 Fac.cells rs)
    (hok : ∀ f ∈ rs, f.l.size ≤ maxLen) (hls : gOk rs = some ls) (hlen : (wdN rs).length ≤ 1048576) :
    Calls Tryz.prog 23 #[.pointer (some ⟨gb, 0, none⟩), .int .i64 0, .int .i64 ((wdN rs).length : Nat)] w (Ret (.string (tx (wdN rs))) w) := by
  have HN := Lib.hid hr.len
  have hn4 : n ≤ 400 := by have := (gOk_lens hls).2.1; have := HN.out; omega
  have HL := Lib.hid (l02Lengths_any gb A n c rs w hg hc (by omega) hr hok)
  have HLT := Lib.hid (fun (B : Option Addr) (d : Nat) (i : Nat) (w' : World) (hb : Below w.heap.size w w') (h : Rd w' w'.heap.size B ls.length 1 intE ls) (hi : i < (wdN rs).length) =>
    l02Letter_any gb A n c rs B ls.length d ls i w' (by have := hb.size; omega) ((hb.cell (p := ⟨gb, 0, none⟩) hg).trans hc) hn4 (hr.next hb) h (gOk_lens hls).1 hi (by omega))
  have HW := Lib.hid (wdN_let (wf_of (gOk_lens hls).1))
  have HLs := Lib.hid hls
  clear hr hok hls hg hc
  generalize wdN rs = u at *
  obtain ⟨L, hL⟩ : ∃ L, u.length = L := ⟨_, rfl⟩
  have HU := Lib.hid hL
  rw [hL] at hlen ⊢
  clear hL
  go_enter Tryz.func23, Tryz.ntmps23
  go_wp2_with fail
  refine HL.out.mono ?_
  rintro e w1 ⟨hb1, ⟨ls', A', c', hgl, rfl, own1⟩ | ⟨hgl, _⟩⟩
  · obtain rfl : ls = ls' := by have := HLs.out.symm.trans hgl; injection this
    have O1 := Lib.hid (own1.alloc (.cells #[] 5))
    have W1 := Lib.hid (World.ownsRow_made (base := w.heap.size) (e := 5) (size := 1) w1 #[] 0 (by have := hb1.size; omega) (by unfold maxLen; omega) rfl)
    have B1 := Lib.hid (show Below w.heap.size w (w1.alloc (.cells #[] 5)) from hb1.alloc hb1.size _)
    clear hgl own1 hb1
    go_wp2_with fail
    go_loopw [9, 10] (fun o_ k_ w' => ∃ (k : Nat) (A2 : Option Addr) (c2 : Nat), k_ = .int .i64 k ∧ o_ = .slice A2 k c2 ∧ k ≤ L ∧ Hid (w'.ownsRow w.heap.size 5 1 (.slice A2 k c2) k ((txB (u.take k)).flatMap byteE)) ∧
        Hid (w'.ownsRow w.heap.size 2 1 (.slice A' ls.length c') ls.length (ls.flatMap intE)) ∧ Hid (Below w.heap.size w w')) (fun _ k_ _ => L - (intOf k_).toNat)
    case atStart => exact ⟨0, _, 0, rfl, rfl, by omega, Lib.hid (by simpa [txB] using W1.out), O1, B1⟩
    case round =>
      obtain ⟨k, A2, c2, rfl, rfl, hk, hown, hlr, hbb⟩ := hrel
      clear W1 O1 B1
      by_cases hlt : k < L
      · have hku : k < u.length := by rw [HU.out]; exact hlt
        have hlet := Lib.hid (show [.int .u8 (((97 + u.getD k 0 : Nat)) : Int)] = byteE (UInt8.ofNat (97 + u.getD k 0)) from byteE_let u k HW.out)
        have hsn := Lib.hid (txB_snoc u hku)
        have hkl := Lib.hid (show (txB (u.take k)).length = k by rw [txB_len, List.length_take]; omega)
        have RL := Lib.hid (Rd.of_own (enc := intE) (fun _ _ => rfl) rfl hlr.out)
        have C := Lib.hid (show Calls _ _ _ _ (Ret (.int .u8 (((97 + u.getD k 0 : Nat)) : Int)) wr) from HLT.out A' c' k wr hbb.out RL.out hku)
        generalize hz : 97 + u.getD k 0 = z at *
        clear hz
        generalize UInt8.ofNat z = b8 at *
        have i1 : (k : Int) < (L : Int) := by omega
        clear hku
        go_wp2_with fail
        refine C.out.mono ?_
        rintro e w3 ⟨rfl, hb3⟩
        have O3 := Lib.hid ((own_next hown.out hb3).alloc (.cells #[.int .u8 (z : Int)] 5))
        have L3 := Lib.hid ((own_next hlr.out hb3).alloc (.cells #[.int .u8 (z : Int)] 5))
        have B3 := Lib.hid (hbb.out.trans (hb3.mono hbb.out.size))
        have B3' := Lib.hid (show Below w.heap.size w (w3.alloc (.cells #[.int .u8 (z : Int)] 5)) from B3.out.alloc B3.out.size _)
        clear hb3
        go_wp2_with
          (at_builtin
           refine wpList_push (w0 := w) rfl _ _ _ rfl w.heap.size 5 1 1 elem_byte byteE A2 k c2 (txB (u.take k)) rfl O3.out w3.heap.size b8 #[.int .u8 (z : Int)] 5 (0, 0) rfl (heap_alloc_new _ _) hlet.out rfl (by simp [byteE, Value.oneCell']) (by omega) (by omega) (by unfold maxLen; omega) rfl B3'.out ?_
           intro A9 c9 w9 own9 hg9 hat9 hb9
           have O9 := Lib.hid own9
           have L9 := Lib.hid (L3.out.kept hg9 (own_ne L3.out O3.out (by decide)))
           have B9 := Lib.hid hb9
           clear own9 hg9 hat9 hb9)
        go_roundw
        case rel => exact ⟨k + 1, A9, c9, by go_num, rfl, by omega, Lib.hid (by rw [← hsn.out]; exact O9.out), L9, B9⟩
        case measure => simp [intOf]; omega
      · obtain rfl : k = L := by omega
        have ht : u.take k = u := List.take_of_length_le (by rw [HU.out]; omega)
        have ho := hown.out
        rw [ht] at ho
        have hcv := conv_own ho (by rw [txB_len, HU.out])
        have HT := Lib.hid (show tx u = ⟨(txB u).toArray⟩ from rfl)
        clear ho ht
        go_wp2_with fail
        go_ret
        rw [HT.out]
        exact ⟨rfl, hbb.out⟩
  · rw [HLs.out] at hgl; cases hgl
section
variable (A : Option Addr) (n c : Nat) (rs : List Fac) (ls : List Int) (w : World) (hr : Rd w w.heap.size A n 3 Fac.cells rs) (hok : ∀ f ∈ rs, f.l.size ≤ maxLen) (hls : gOk rs = some ls)
include hr hok hls
set_option maxHeartbeats 1000000 in
/-- a short word -/
theorem unpackWord_any (hlen : (wdN rs).length ≤ 2000) : Calls Tryz.prog 7 #[.agg #[.slice A n c]] w (Ret (.tuple #[.string (tx (wdN rs)), .int .i64 0]) w) := by
  have HN := Lib.hid hr.len
  have hn4 : n ≤ 400 := by have := (gOk_lens hls).2.1; have := HN.out; omega
  have hb0 : Below w.heap.size w (w.alloc (.cells #[.slice A n c] 31)) := by (repeat first | exact Below.refl _ _ | assumption | refine Below.drew ?_ | refine Below.alloc ?_ (by first | exact Nat.le_refl _ | (simp; done) | omega | (simp; omega)) _ | refine Below.setCell ?_ (by first | exact Nat.le_refl _ | (simp; done) | omega | (simp; omega)) _)
  have B0 := Lib.hid (Blk.new w 31 #[.slice A n c])
  have hlw := Lib.hid (last_word (gOk_lens hls).1)
  have OK := Lib.hid (fun W (hb : Below w.heap.size w W) (hB : Blk W w.heap.size 31 #[.slice A n c]) => l02Ok_any w.heap.size A n c rs W hB.lt (hB.cell 0) (by omega) (hr.next hb) hok true (by rw [hls]; rfl))
  have LE := Lib.hid (fun W (hb : Below w.heap.size w W) (hB : Blk W w.heap.size 31 #[.slice A n c]) => l02Length_any w.heap.size A n c rs W hB.lt (hB.cell 0) (by omega) (hr.next hb) hok ls (gOk_lens hls).1)
  have UN := Lib.hid (fun W (hb : Below w.heap.size w W) (hB : Blk W w.heap.size 31 #[.slice A n c]) => l02Unpack_any w.heap.size A n c rs ls W hB.lt (hB.cell 0) (hr.next hb) hok hls (by omega))
  rw [hlw.out] at LE
  clear hr hok hls hlw
  generalize wdN rs = u at *
  generalize u.length = L at *
  go_enter Tryz.func7, Tryz.ntmps7
  go_wp2_with fail
  refine (OK.out _ hb0 B0.out).mono ?_
  rintro e w1 ⟨rfl, hb1⟩
  have b1 := Lib.hid (hb0.trans (hb1.mono (by simp)))
  have B1 := Lib.hid (B0.out.next hb1)
  go_wp2_with fail
  refine (LE.out _ b1.out B1.out).mono ?_
  rintro e w2 ⟨rfl, hb2⟩
  have b2 := Lib.hid (b1.out.trans (hb2.mono b1.out.size))
  have B2 := Lib.hid (B1.out.next hb2)
  have hL : ¬ (2000 : Int) < (L : Int) := by omega
  clear hb1 hb2 hb0
  go_wp2_with fail
  refine (UN.out _ b2.out B2.out).mono ?_
  rintro e w3 ⟨rfl, hb3⟩
  have b3 := Lib.hid (b2.out.trans (hb3.mono b2.out.size))
  clear hb3
  go_wp2_with fail
  go_ret2
  exact ⟨rfl, b3.out⟩
end
end Go.Proofs.YtmdmgndhapdmgaaGreat


/-
  The measures of tables.
-/
namespace Go.Proofs.YtmdmgndhapdmgaaGreat
open Go.RowKit

end Go.Proofs.YtmdmgndhapdmgaaGreat


/-
  Tables of rows of any length: compared, marked, held (texts).
-/
namespace Go.Proofs.YtmdmgndhapdmgaaGreat
open Go.RowKit

end Go.Proofs.YtmdmgndhapdmgaaGreat
