/-
  Texts of this claim, merged: CoM CwM Src Drawn LvM LvW DrG JoinM Pow.
-/
import Derived.Test.YtmdmgndhapdmgaaGreatP5
import Derived.Laws.BitsLemmas
import Derived.Laws.Bits64
import Derived.Deep.RegionHeld3
import Derived.Deep.RegionWith
import Derived.Deep.RegionLaw
import Derived.Deep.DeepCutAuto


/-
  The code of a word, and the words of a coded grammar's rules. Plain.
-/
namespace Go.Proofs.YtmdmgndhapdmgaaGreat
open Go.RowKit

/-- the state behind a word -/
def nextN (nx : List (List Int)) (s k : Nat) : Nat := ((nx.getD s []).getD k 0).toNat
def stW (nx : List (List Int)) : Nat → List Nat → Nat
  | s, [] => s
  | s, k :: u => stW nx (nextN nx s k) u
/-- the code of a word -/
def coW (nx : List (List Int)) (ot : List (List ByteArray)) : Nat → List Nat → List Nat
  | _, [] => []
  | s, k :: u => nums ((ot.getD s []).getD k ⟨#[]⟩) ++ coW nx ot (nextN nx s k) u
section
variable {nx : List (List Int)} {ot : List (List ByteArray)} {S : Nat}
theorem stW_app : ∀ (u v : List Nat) (s : Nat), stW nx s (u ++ v) = stW nx (stW nx s u) v
  | [], _, _ => rfl
  | k :: u, v, s => by rw [List.cons_append, stW, stW, stW_app u v]
theorem coW_app : ∀ (u v : List Nat) (s : Nat), coW nx ot s (u ++ v) = coW nx ot s u ++ coW nx ot (stW nx s u) v
  | [], _, _ => rfl
  | k :: u, v, s => by rw [List.cons_append, coW, coW, stW, coW_app u v, List.append_assoc]
theorem nextN_eq {s l t : Nat} {r : List Int} (h1 : nx[s]? = some r) (h2 : r[l]? = some (t : Int)) : nextN nx s l = t := by
  unfold nextN
  have e : nx.getD s [] = r := by rw [List.getD_eq_getElem?_getD, h1]; rfl
  rw [e, List.getD_eq_getElem?_getD, h2]; rfl
theorem nextN_lt (h : NxOk S nx) {s k : Nat} (hs : s < S) (hk : k < 4) : nextN nx s k < S := by
  obtain ⟨r, t, h1, _, h2, h3⟩ := h.at_ hs hk
  rw [nextN_eq h1 h2]; exact h3
/-- the maps of rules are those of their words -/
theorem maps_word (h : NxOk S nx) {rs : List Fac} (hwf : WF rs) : ∀ k, k < rs.length → ∀ s, s < S → ((maps nx rs).getD k []).getD s 0 = (stW nx s ((wds rs).getD k []) : Int) := by
  have hM := maps_ok h hwf
  intro k
  induction k using Nat.strongRecOn with
  | ind k ih =>
    intro hk s hs
    have gx : rs[k]? = some (rs[k]'hk) := List.getElem?_eq_getElem _
    rcases hwf k _ gx with ⟨h0, ha0, ha1, hb0, hb1⟩ | ⟨c, hc, hl, _⟩
    · rw [wds_pair hwf gx h0, stW_app, full_pair [] (mF nx) mG hwf gx h0]
      have la := hM (rs[k]'hk).a.toNat (by omega)
      have ia := ih (rs[k]'hk).a.toNat (by omega) (by omega) s hs
      obtain ⟨t, e0, ht⟩ := la.at_ hs
      have et : (stW nx s ((wds rs).getD (rs[k]'hk).a.toNat [])) = t := by
        rw [List.getD_eq_getElem?_getD, e0] at ia
        have ia : (t : Int) = (stW nx s ((wds rs).getD (rs[k]'hk).a.toNat []) : Int) := ia
        omega
      have ib := ih (rs[k]'hk).b.toNat (by omega) (by omega) t ht
      obtain ⟨t2, e2, _⟩ := (hM (rs[k]'hk).b.toNat (by omega)).at_ ht
      rw [et, ← ib, List.getD_eq_getElem?_getD, mG_at e0 e2, List.getD_eq_getElem?_getD, e2]
    · have h0 : (rs[k]'hk).l.size ≠ 0 := by rw [hl]; show (1 : Nat) ≠ 0; omega
      rw [wds_one gx hl, full_let [] (mF nx) mG gx h0, hl, letN_one]
      have hn := letB_num hc
      obtain ⟨r, t, h1, _, h2, h3⟩ := h.at_ hs (show c.toNat - 97 < 4 by omega)
      rw [List.getD_eq_getElem?_getD, mF_at h1 h2]
      show (t : Int) = (stW nx s [c.toNat - 97] : Int)
      rw [stW, stW, nextN_eq h1 h2]
/-- the lengths of the codes of rules -/
theorem lens_code (h : NxOk S nx) (ho : OtOk S ot) {rs : List Fac} {ls : List Int} (hls : gLens rs [] = some ls) : ∀ k, k < rs.length → ∀ s, s < S → ((lens ot (maps nx rs) rs).getD k []).getD s 0 = ((coW nx ot s ((wds rs).getD k [])).length : Int) := by
  have hwf := wf_of hls
  have hL := lens_ok h ho hls
  have hM := maps_ok h hwf
  have hW := maps_word h hwf
  intro k
  induction k using Nat.strongRecOn with
  | ind k ih =>
    intro hk s hs
    have gx : rs[k]? = some (rs[k]'hk) := List.getElem?_eq_getElem _
    rcases hwf k _ gx with ⟨h0, ha0, ha1, hb0, hb1⟩ | ⟨c, hc, hl, _⟩
    · rw [wds_pair hwf gx h0, coW_app, full_pair [] (lF ot) (cG (maps nx rs)) hwf gx h0]
      have la := hL (rs[k]'hk).a.toNat (by omega)
      have lb := hL (rs[k]'hk).b.toNat (by omega)
      have lm := hM (rs[k]'hk).a.toNat (by omega)
      have ia := ih (rs[k]'hk).a.toNat (by omega) (by omega) s hs
      have wm := hW (rs[k]'hk).a.toNat (by omega) s hs
      obtain ⟨t, e0, ht⟩ := lm.at_ hs
      have ib := ih (rs[k]'hk).b.toNat (by omega) (by omega) t ht
      obtain ⟨v1, e1, _⟩ := la.at_ hs
      obtain ⟨v2, e2, _⟩ := lb.at_ ht
      obtain ⟨m, gm⟩ : ∃ m, (maps nx rs)[(rs[k]'hk).a.toNat]? = some m := ⟨_, List.getElem?_eq_getElem (by rw [full_len]; omega)⟩
      have em : (maps nx rs).getD (rs[k]'hk).a.toNat [] = m := by rw [List.getD_eq_getElem?_getD, gm]; rfl
      rw [em] at e0 wm
      have et : stW nx s ((wds rs).getD (rs[k]'hk).a.toNat []) = t := by
        rw [List.getD_eq_getElem?_getD, e0] at wm
        have wm : (t : Int) = (stW nx s ((wds rs).getD (rs[k]'hk).a.toNat []) : Int) := wm
        omega
      have ec := cG_at (r := rs[k]'hk) (xa := (rs[k]'hk).a.toNat) (by omega) gm e0 e1 e2
      rw [List.getD_eq_getElem?_getD, ec, et, List.length_append]
      rw [List.getD_eq_getElem?_getD, e1] at ia
      rw [List.getD_eq_getElem?_getD, e2] at ib
      have ia : v1 = _ := ia
      have ib : v2 = _ := ib
      show v1 + v2 = _
      rw [ia, ib]; omega
    · have h0 : (rs[k]'hk).l.size ≠ 0 := by rw [hl]; show (1 : Nat) ≠ 0; omega
      rw [wds_one gx hl, full_let [] (lF ot) (cG (maps nx rs)) gx h0, hl, letN_one]
      have hn := letB_num hc
      obtain ⟨r, t, h1, _, h2, _⟩ := ho.at_ hs (show c.toNat - 97 < 4 by omega)
      rw [List.getD_eq_getElem?_getD, lF_at h1 h2]
      show (t.size : Int) = ((coW nx ot s [c.toNat - 97]).length : Int)
      have e1 : ot.getD s [] = r := by rw [List.getD_eq_getElem?_getD, h1]; rfl
      have e2 : r.getD (c.toNat - 97) ⟨#[]⟩ = t := by rw [List.getD_eq_getElem?_getD, h2]; rfl
      rw [coW, coW, e1, e2, List.append_nil]
      unfold nums
      rw [List.length_map, byte_len]
theorem codN_code (h : NxOk S nx) (ho : OtOk S ot) {rs : List Fac} {ls : List Int} (hls : gLens rs [] = some ls) {q : Nat} (hq : q < S) : codN nx ot q rs = ((coW nx ot q (wdN rs)).length : Int) := by
  unfold codN wdN
  split
  · rename_i h0
    obtain rfl := List.eq_nil_of_length_eq_zero h0
    rfl
  · rename_i h0
    rw [if_neg (fun e => h0 (by rw [e]; rfl))]
    exact lens_code h ho hls _ (by omega) q hq
end
/-! ### what is met -/
def getB (T : List (List Bool)) (i s : Nat) : Bool := (T.getD i []).getD s false
section
variable {n S : Nat} {T T' : List (List Bool)} {M : List (List Int)}
theorem getB_put (h : Sh n S T) {i s j t : Nat} (hi : i < n) (hs : s < S) : getB (put T i s) j t = if j = i ∧ t = s then true else getB T j t := by
  obtain ⟨v, hv, hl⟩ := h.at_ hi
  have hin : i < T.length := by rw [h.len]; exact hi
  rw [put_eq hv]
  unfold getB
  by_cases e : i = j
  · subst e
    have e1 : (T.set i (v.set s true)).getD i [] = v.set s true := by rw [List.getD_eq_getElem?_getD, List.getElem?_set_self hin]; rfl
    have e2 : T.getD i [] = v := by rw [List.getD_eq_getElem?_getD, hv]; rfl
    rw [e1, e2, List.getD_eq_getElem?_getD, List.getElem?_set]
    by_cases e3 : s = t
    · subst e3; rw [if_pos rfl, if_pos (by omega), if_pos ⟨rfl, rfl⟩]; rfl
    · rw [if_neg e3, if_neg (fun q => e3 q.2.symm), ← List.getD_eq_getElem?_getD]
  · have e1 : (T.set i (v.set s true)).getD j [] = T.getD j [] := by rw [List.getD_eq_getElem?_getD, List.getElem?_set_ne e, ← List.getD_eq_getElem?_getD]
    rw [if_neg (fun q => e q.1.symm), e1]
def LeB (T T' : List (List Bool)) : Prop := ∀ j t, getB T j t = true → getB T' j t = true
theorem LeB.refl (T : List (List Bool)) : LeB T T := fun _ _ h => h
theorem LeB.trans {T1 : List (List Bool)} (h : LeB T T1) (h2 : LeB T1 T') : LeB T T' := fun j t h3 => h2 j t (h j t h3)
theorem put_le (h : Sh n S T) {i s : Nat} (hi : i < n) (hs : s < S) : LeB T (put T i s) := fun j t hj => by
  rw [getB_put h hi hs]
  split
  · rfl
  · exact hj
/-- one rule's states told to its parts -/
theorem metI_ok {a b : Nat} (ha : a < n) (hb : b < n) (hm : StL S (M.getD a [])) : ∀ (v : List Bool) (s : Nat) (T : List (List Bool)), Sh n S T → s + v.length = S →
    Sh n S (metI M a b v s T) ∧ LeB T (metI M a b v s T) ∧ (∀ j, j ≠ a → j ≠ b → (metI M a b v s T)[j]? = T[j]?) ∧ ∀ t, v[t]? = some true → getB (metI M a b v s T) a (s + t) = true ∧ getB (metI M a b v s T) b (((M.getD a []).getD (s + t) 0).toNat) = true
  | [], s, T, h, _ => ⟨h, LeB.refl _, fun _ _ _ => rfl, fun t ht => by simp at ht⟩
  | x :: v, s, T, h, hs => by
    rw [List.length_cons] at hs
    rw [metI]
    have hz : ((M.getD a []).getD s 0).toNat < S := by
      obtain ⟨t, e, ht⟩ := hm.at_ (show s < S by omega)
      rw [List.getD_eq_getElem?_getD, e]
      show ((t : Int)).toNat < S
      rw [Int.toNat_natCast]; exact ht
    have h1 : Sh n S (if x = true then metP M a b s T else T) := by
      split
      · exact (h.put ha).put hb
      · exact h
    have h2 : LeB T (if x = true then metP M a b s T else T) := by
      split
      · exact (put_le h ha (by omega)).trans (put_le (h.put ha) hb hz)
      · exact LeB.refl _
    have h3 : ∀ j, j ≠ a → j ≠ b → (if x = true then metP M a b s T else T)[j]? = T[j]? := fun j j1 j2 => by
      split
      · unfold metP
        rw [put_at (Ne.symm j2), put_at (Ne.symm j1)]
      · rfl
    obtain ⟨g1, g2, g3, g4⟩ := metI_ok ha hb hm v (s + 1) _ h1 (by omega)
    refine ⟨g1, h2.trans g2, fun j j1 j2 => (g3 j j1 j2).trans (h3 j j1 j2), fun t ht => ?_⟩
    rcases t with _ | t
    · have hx : x = true := by simpa using ht
      subst hx
      rw [Nat.add_zero]
      refine ⟨g2 _ _ ?_, g2 _ _ ?_⟩
      · rw [if_pos rfl]
        unfold metP
        refine put_le (h.put ha) hb hz _ _ ?_
        rw [getB_put h ha (by omega), if_pos ⟨rfl, rfl⟩]
      · rw [if_pos rfl]
        unfold metP
        rw [getB_put (h.put ha) hb hz, if_pos ⟨rfl, rfl⟩]
    · have := g4 t (by simpa using ht)
      rw [show s + (t + 1) = s + 1 + t by omega]
      exact this
/-- what a rule tells of its states is told to its parts -/
def Cls (M : List (List Int)) (rs : List Fac) (S : Nat) (T : List (List Bool)) (j : Nat) : Prop :=
  ∀ r, rs[j]? = some r → r.l.size = 0 → ∀ s, s < S → getB T j s = true → getB T r.a.toNat s = true ∧ getB T r.b.toNat (((M.getD r.a.toNat []).getD s 0).toNat) = true
theorem metD_ok {rs : List Fac} (hwf : WF rs) (hM : ∀ k, k < rs.length → StL S (M.getD k [])) : ∀ (i : Nat) (T : List (List Bool)), i ≤ rs.length → Sh rs.length S T → (∀ j, i ≤ j → j < rs.length → Cls M rs S T j) →
    LeB T (metD M rs i T) ∧ (∀ j, j < rs.length → Cls M rs S (metD M rs i T) j)
  | 0, T, _, _, hc => ⟨LeB.refl _, fun j hj => hc j (Nat.zero_le _) hj⟩
  | i + 1, T, hi, h, hc => by
    rw [metD]
    have gx : rs[i]? = some (rs[i]'(by omega)) := List.getElem?_eq_getElem _
    have e : rs.getD i ⟨⟨#[]⟩, 0, 0⟩ = rs[i]'(by omega) := by rw [List.getD_eq_getElem?_getD, gx]; rfl
    rw [e]
    rcases hwf i _ gx with ⟨h0, a0, a1, b0, b1⟩ | ⟨c, _, hl, _⟩
    · have e1 : metR M (rs[i]'(by omega)) i T = metI M (rs[i]'(by omega)).a.toNat (rs[i]'(by omega)).b.toNat (T.getD i []) 0 T := by unfold metR; rw [if_pos h0]
      rw [e1]
      obtain ⟨v, hv, lv⟩ := h.at_ (show i < rs.length by omega)
      have ev : T.getD i [] = v := by rw [List.getD_eq_getElem?_getD, hv]; rfl
      rw [ev]
      obtain ⟨g1, g2, g3, g4⟩ := metI_ok (M := M) (show (rs[i]'(by omega)).a.toNat < rs.length by omega) (show (rs[i]'(by omega)).b.toNat < rs.length by omega) (hM _ (by omega)) v 0 T h (by omega)
      generalize metI M (rs[i]'(by omega)).a.toNat (rs[i]'(by omega)).b.toNat v 0 T = T1 at *
      have hrow : ∀ j, i ≤ j → ∀ s, getB T1 j s = getB T j s := fun j hj s => by
        have e1 : T1.getD j [] = T.getD j [] := by rw [List.getD_eq_getElem?_getD, g3 j (by omega) (by omega), ← List.getD_eq_getElem?_getD]
        unfold getB
        rw [e1]
      obtain ⟨k1, k2⟩ := metD_ok hwf hM i T1 (by omega) g1 (fun j hj hjn r hr hr0 s hs hb => by
        rw [hrow j hj] at hb
        by_cases hji : j = i
        · subst hji
          obtain rfl : rs[j]'(by omega) = r := Option.some.inj (gx.symm.trans hr)
          have hvs : v[s]? = some true := by
            have hb' : v.getD s false = true := by unfold getB at hb; rw [ev] at hb; exact hb
            rw [List.getD_eq_getElem?_getD] at hb'
            have hx : v[s]? = some (v[s]'(by omega)) := List.getElem?_eq_getElem _
            rw [hx] at hb' ⊢
            exact congrArg some hb'
          have := g4 s hvs
          rw [Nat.zero_add] at this
          exact this
        · have := hc j (by omega) hjn r hr hr0 s hs hb
          exact ⟨g2 _ _ this.1, g2 _ _ this.2⟩)
      exact ⟨g2.trans k1, k2⟩
    · have e1 : metR M (rs[i]'(by omega)) i T = T := by unfold metR; rw [if_neg (by rw [hl]; show ¬ (1 : Nat) = 0; omega)]
      rw [e1]
      exact metD_ok hwf hM i T (by omega) h (fun j hj hjn => by
        by_cases hji : j = i
        · subst hji
          intro r hr hr0
          obtain rfl : rs[j]'(by omega) = r := Option.some.inj (gx.symm.trans hr)
          rw [hl] at hr0; cases hr0
        · exact hc j (by omega) hjn)
theorem metT_ok {rs : List Fac} (hwf : WF rs) (hM : ∀ k, k < rs.length → StL S (M.getD k [])) (h0 : rs.length ≠ 0) {q : Nat} (hq : q < S) : getB (metT M rs S q) (rs.length - 1) q = true ∧ ∀ j, j < rs.length → Cls M rs S (metT M rs S q) j := by
  have hS0 := met00_sh rs.length S
  obtain ⟨h1, h2⟩ := metD_ok (M := M) hwf hM rs.length _ (Nat.le_refl _) (hS0.put (i := rs.length - 1) (s := q) (by omega)) (fun j hj hjn => by omega)
  refine ⟨h1 _ _ ?_, h2⟩
  rw [getB_put hS0 (by omega) hq, if_pos ⟨rfl, rfl⟩]
end
end Go.Proofs.YtmdmgndhapdmgaaGreat


/-
  The code of a text: result and code number. Plain.
-/
namespace Go.Proofs.YtmdmgndhapdmgaaGreat
open Go.RowKit

/-- the code's bytes -/
def coB (nx : List (List Int)) (ot : List (List ByteArray)) : Nat → List UInt8 → List UInt8
  | _, [] => []
  | s, c :: u => ((ot.getD s []).getD (numC c) ⟨#[]⟩).data.toList ++ coB nx ot (nextN nx s (numC c)) u
def cwR (S q : Int) (nx : List (List Int)) (ot : List (List ByteArray)) (s : ByteArray) : ByteArray × Int :=
  if cdB S q nx ot = true ∧ okW s = true then (if 2000 < (coB nx ot q.toNat s.data.toList).length then (⟨#[]⟩, 3) else (⟨(coB nx ot q.toNat s.data.toList).toArray⟩, 0)) else (⟨#[]⟩, 1)
section
variable {nx : List (List Int)} {ot : List (List ByteArray)} {S : Nat}
theorem numC_lt {c : UInt8} (h : letB c = true) : numC c < 4 := by
  have := letB_num h
  unfold numC; omega
theorem txB_nums {t : ByteArray} (h : okW t = true) : txB (nums t) = t.data.toList := by
  obtain ⟨hl, _⟩ := okW_let h
  unfold txB nums
  rw [List.map_map]
  conv => rhs; rw [← List.map_id t.data.toList]
  refine List.map_congr_left fun c hc => ?_
  have := letB_num (List.all_eq_true.1 hl c hc)
  show UInt8.ofNat (97 + (c.toNat - 97)) = c
  rw [← UInt8.toNat_inj, UInt8.toNat_ofNat']; omega
theorem coB_word (h : NxOk S nx) (ho : OtOk S ot) : ∀ (l : List UInt8) (s : Nat), s < S → l.all letB = true → coB nx ot s l = txB (coW nx ot s (l.map numC))
  | [], _, _, _ => rfl
  | c :: l, s, hs, hl => by
    rw [List.all_cons, Bool.and_eq_true] at hl
    obtain ⟨r, t, h1, _, h2, hok, _⟩ := ho.at_ hs (numC_lt hl.1)
    have e1 : ot.getD s [] = r := by rw [List.getD_eq_getElem?_getD, h1]; rfl
    have e2 : r.getD (numC c) ⟨#[]⟩ = t := by rw [List.getD_eq_getElem?_getD, h2]; rfl
    rw [coB, List.map_cons, coW, e1, e2, coB_word h ho l _ (nextN_lt h hs (numC_lt hl.1)) hl.2]
    unfold txB
    rw [List.map_append]
    congr 1
    exact (txB_nums hok).symm
/-- a step: the letter's text and the next state -/
theorem coB_step (h : NxOk S nx) (ho : OtOk S ot) {l : List UInt8} {k s : Nat} {c : UInt8} (hc : l[k]? = some c) (hl : letB c = true) (hs : s < S) : ∃ (r : List ByteArray) (t : ByteArray) (rn : List Int) (t2 : Nat), ot[s]? = some r ∧ r.length = 4 ∧ r[c.toNat - 97]? = some t ∧ t.size ≤ 6 ∧ nx[s]? = some rn ∧ rn.length = 4 ∧ rn[c.toNat - 97]? = some (t2 : Int) ∧ t2 < S ∧
    coB nx ot s (l.drop k) = t.data.toList ++ coB nx ot t2 (l.drop (k + 1)) := by
  have hn := numC_lt hl
  unfold numC at hn
  obtain ⟨r, t, h1, h4, h2, _, h6⟩ := ho.at_ hs hn
  obtain ⟨rn, t2, g1, g4, g2, g3⟩ := h.at_ hs hn
  refine ⟨r, t, rn, t2, h1, h4, h2, h6, g1, g4, g2, g3, ?_⟩
  have e1 : ot.getD s [] = r := by rw [List.getD_eq_getElem?_getD, h1]; rfl
  have e2 : r.getD (numC c) ⟨#[]⟩ = t := by unfold numC; rw [List.getD_eq_getElem?_getD, h2]; rfl
  have e3 : nextN nx s (numC c) = t2 := nextN_eq g1 (by unfold numC; exact g2)
  rw [drop_cons hc, coB, e1, e2, e3]
end
end Go.Proofs.YtmdmgndhapdmgaaGreat


/-
  The reader of choices: what it hands back lies within bounds.
-/
namespace Go.Proofs.YtmdmgndhapdmgaaGreat
open Go.RowKit

def byteE (b : UInt8) : List Value := [.int .u8 (b.toNat : Int)]
def U64 (z : Int) : Prop := 0 ≤ z ∧ z < 18446744073709551616
/-- block g is a reader that has read at most K bytes -/
def Src (w : World) (g K : Nat) : Prop := ∃ (A : Option Addr) (n c k : Nat) (bs : List UInt8) (z : Int), k ≤ K ∧ n ≤ 4096 ∧ U64 z ∧ Blk w g 105 #[.slice A n c, .int .i64 k, .int .u64 z] ∧ Rd w g A n 1 byteE bs
/-- what a draw below m leaves -/
def Draw (w : World) (g K : Nat) (m : Int) (e : Ending) (w' : World) : Prop := ∃ v : Int, e = .returned (.int .i64 v) ∧ 0 ≤ v ∧ v < m ∧ Src w' g K ∧ w.grownBy w' (some g)
theorem Rd.byte {w : World} {B n : Nat} {A : Option Addr} {xs : List UInt8} {k : Nat} (h : Rd w B A n 1 byteE xs) (hk : k < n) :
    ∃ b o x, A = some ⟨b, o, none⟩ ∧ b < B ∧ xs[k]? = some x ∧ w.cell? ⟨b, o + k, none⟩ = some (.int .u8 (x.toNat : Int)) := by
  obtain ⟨b, o, hA, hb, x, hx, hc⟩ := h.at_ hk
  exact ⟨b, o, x, hA, hb, hx, by simpa using hc 0 _ rfl⟩
theorem Src.keep {w w' : World} {g K : Nat} (h : Src w g K) (hb : w'.heap[g]? = w.heap[g]?) (hr : ∀ p : Addr, p.block < g → w'.cell? p = w.cell? p) : Src w' g K := by
  obtain ⟨A, n, c, k, bs, z, h1, h2, h3, h4, h5⟩ := h
  exact ⟨A, n, c, k, bs, z, h1, h2, h3, hb.trans h4, h5.keep hr⟩

theorem wraps_63 (n : Int) (h₀ : 0 ≤ n) (h₁ : n < 2 ^ 63) : IntKind.u64.wrap n = n := by rw [IntKind.wrap_u64]; omega
theorem and_255 (z : Int) (h0 : 0 ≤ z) (h1 : z < 18446744073709551616) : 0 ≤ wrap64 (bits .and .u64 (z / 1099511627776) 255) ∧ wrap64 (bits .and .u64 (z / 1099511627776) 255) < 256 := by
  have h := bits_mask .u64 63 (by decide) wraps_63 8 (by decide) (z / 1099511627776) (by omega) (by omega)
  have e : ((2 : Int) ^ 8 - 1) = 255 := by decide
  have e2 : ((2 : Int) ^ 8) = 256 := by decide
  rw [e, e2] at h
  rw [h, IntWalk.wrap64_in _ (by omega)]
  omega
theorem u64_of (z : Int) : U64 (IntKind.u64.wrap z) := by
  unfold U64; rw [IntKind.wrap_u64]; omega
set_option maxHeartbeats 1000000 in
theorem next_any (g K : Nat) (w : World) (h : Src w g K) (hK : K ≤ 1000000000) :
    Calls Tryz.prog 86 #[.pointer (some ⟨g, 0, none⟩)] w (Draw w g (K + 1) 256) := by
  obtain ⟨A, n, c, k, bs, z, hk, hn, hz, hB, hr⟩ := h
  have hg := hB.lt
  obtain ⟨c0, c1, c2⟩ := hB.three
  have hup := upc w.heap.size w
  by_cases hlt : k < n
  · obtain ⟨b, o, x, rfl, hb, gx, cx⟩ := hr.byte hlt
    have hxx : (x.toNat : Int) < 256 := by have := x.toNat_lt; omega
    have i1 : (0 : Int) ≤ k := by omega
    have i2 : (k : Int) < n := by omega
    have i3 : (k : Int) + 1 ≤ n := by omega
    go_enter Tryz.func86, Tryz.ntmps86
    go_wp2_with fail
    refine wp_region_up w.heap.size (by kernel_rfl) (by kernel_rfl) ?_
    repeat (go_big_quiet_step (fail))
    refine wpQuiet_nil ?_
    intro w2 hup_w2
    have hb2 := up_of hup_w2
    have hB2 := hB.next hb2
    have hg2 := hB2.lt
    have hbb2 : b < w2.heap.size := by omega
    obtain ⟨d0, d1, d2⟩ := hB2.three
    have hu2 := upc w2.heap.size w2
    have cx2 := (hb2.cell (p := ⟨b, o + k, none⟩) (by show b < _; omega)).trans cx
    go_wp2_with fail
    refine wp_region_up w2.heap.size (by kernel_rfl) (by kernel_rfl) ?_
    repeat (go_big_quiet_step (fail))
    refine wpQuiet_nil ?_
    intro w3 hup_w3
    have hb3 := up_of hup_w3
    have hB3 := hB2.next hb3
    have hg3 := hB3.lt
    obtain ⟨e0, e1, e2⟩ := hB3.three
    have f3 := hB3.frozen
    go_wp2_with fail
    refine named fun w4 H4 => ?_
    obtain ⟨z', hz', hB4⟩ : ∃ z', U64 z' ∧ Blk w4 g 105 #[.slice (some ⟨b, o, none⟩) n c, .int .i64 ((k + 1 : Nat) : Int), .int .u64 z'] := by
      rw [H4.out]; exact ⟨_, u64_of _, (hB3.set_ 1 _).set_ 2 _⟩
    have hg4 := hB4.lt
    obtain ⟨x0, x1, x2⟩ := hB4.three
    have hu4 := upc w4.heap.size w4
    have hz0 := hz'.1; have hz1 := hz'.2
    clear hu2 hup
    refine wp_region_up w4.heap.size (by kernel_rfl) (by kernel_rfl) ?_
    repeat (go_big_quiet_step (fail))
    refine wpQuiet_nil ?_
    intro w5 hup_w5
    have hb5 := up_of hup_w5
    go_wp2_with fail
    go_ret
    refine ⟨_, rfl, by omega, hxx, ⟨_, n, c, k + 1, bs, z', by omega, hn, hz', hB4.next hb5, ?_⟩, ?_⟩
    · have g4 : w3.grownBy w4 (some g) := by rw [H4.out]; exact gb_setCell (gb_set _ _ _ _) _ _
      exact ((((hr.keep fun p hp => hb2.cell (by omega)).keep fun p hp => hb3.cell (by omega)).grown (by omega) g4 (fun k e => by injection e; omega)).keep fun p hp => hb5.cell (by omega))
    · have g4 : w3.grownBy w4 (some g) := by rw [H4.out]; exact gb_setCell (gb_set _ _ _ _) _ _
      exact gb_next (gb_trans (gb_next (gb_below hb2) hb3) g4) hb5
  · have i2 : (n : Int) ≤ k := by omega
    go_enter Tryz.func86, Tryz.ntmps86
    go_wp2_with fail
    refine wp_region_up w.heap.size (by kernel_rfl) (by kernel_rfl) ?_
    repeat (go_big_quiet_step (fail))
    refine wpQuiet_nil ?_
    intro w3 hup_w3
    have hb3 := up_of hup_w3
    have hB3 := hB.next hb3
    have hg3 := hB3.lt
    obtain ⟨e0, e1, e2⟩ := hB3.three
    have f3 := hB3.frozen
    go_wp2_with fail
    refine named fun w4 H4 => ?_
    obtain ⟨z', hz', hB4⟩ : ∃ z', U64 z' ∧ Blk w4 g 105 #[.slice A n c, .int .i64 ((k + 1 : Nat) : Int), .int .u64 z'] := by
      rw [H4.out]; exact ⟨_, u64_of _, (hB3.set_ 1 _).set_ 2 _⟩
    have hg4 := hB4.lt
    obtain ⟨x0, x1, x2⟩ := hB4.three
    have hu4 := upc w4.heap.size w4
    have hz0 := hz'.1; have hz1 := hz'.2
    clear hup
    refine wp_region_up w4.heap.size (by kernel_rfl) (by kernel_rfl) ?_
    repeat (go_big_quiet_step (fail))
    refine wpQuiet_nil ?_
    intro w5 hup_w5
    have hb5 := up_of hup_w5
    have hB5 := hB4.next hb5
    obtain ⟨y0, y1, y2⟩ := hB5.three
    go_wp2_with fail
    go_ret
    have hand := and_255 z' hz0 hz1
    have g4 : w3.grownBy w4 (some g) := by rw [H4.out]; exact gb_setCell (gb_set _ _ _ _) _ _
    exact ⟨_, rfl, hand.1, hand.2, ⟨_, n, c, k + 1, bs, z', by omega, hn, hz', hB5,
      (((hr.keep fun p hp => hb3.cell (by omega)).grown (by omega) g4 (fun k e => by injection e; omega)).keep fun p hp => hb5.cell (by omega))⟩, gb_next (gb_trans (gb_below hb3) g4) hb5⟩
theorem Src.mono {w : World} {g K K' : Nat} (h : Src w g K) (hK : K ≤ K') : Src w g K' := by
  obtain ⟨A, n, c, k, bs, z, h1, h2⟩ := h
  exact ⟨A, n, c, k, bs, z, by omega, h2⟩
theorem Src.next {w w' : World} {g K : Nat} (h : Src w g K) (hb : Below w.heap.size w w') : Src w' g K := by
  obtain ⟨A, n, c, k, bs, z, h1, h2, h3, h4, h5⟩ := h
  have := h4.lt
  exact ⟨A, n, c, k, bs, z, h1, h2, h3, h4.next hb, h5.keep fun p hp => hb.cell (by omega)⟩
theorem Src.lt {w : World} {g K : Nat} (h : Src w g K) : g < w.heap.size := by
  obtain ⟨A, n, c, k, bs, z, h1, h2, h3, h4, h5⟩ := h
  exact h4.lt
/-- a write to another block that lies behind -/
theorem Src.grown {w w' : World} {g K : Nat} {r : Option Nat} (h : Src w g K) (hg : w.grownBy w' r) (hr : ∀ k, r = some k → g < k) : Src w' g K := by
  obtain ⟨A, n, c, k, bs, z, h1, h2, h3, h4, h5⟩ := h
  have := h4.lt
  exact ⟨A, n, c, k, bs, z, h1, h2, h3, h4.grown hg (fun e => by have := hr _ e.symm; omega), h5.grown (by omega) hg (fun k e => by have := hr _ e; omega)⟩

set_option maxHeartbeats 400000 in
theorem pick_any (g K : Nat) (n m : Int) (w : World) (h : Src w g K) (hK : K ≤ 100000000) (hn : n ≤ m) (hm : 1 ≤ m) :
    Calls Tryz.prog 58 #[.pointer (some ⟨g, 0, none⟩), .int .i64 n] w (Draw w g (K + 2) m) := by
  by_cases h1 : n ≤ 1
  · go_enter Tryz.func58, Tryz.ntmps58
    go_wp2_with fail
    go_ret
    exact ⟨0, rfl, by omega, by omega, h.mono (by omega), World.grownBy.refl _ _⟩
  by_cases h2 : n ≤ 200
  · go_enter Tryz.func58, Tryz.ntmps58
    go_wp2_with fail
    refine (next_any g K _ h (by omega)).mono ?_
    rintro e w1 ⟨v, rfl, v0, v1, s1, g1⟩
    go_wp2_with fail
    go_ret
    exact ⟨_, rfl, Int.emod_nonneg _ (by omega), by have := Int.emod_lt_of_pos v (show 0 < n by omega); omega, s1.mono (by omega), g1⟩
  · go_enter Tryz.func58, Tryz.ntmps58
    go_wp2_with fail
    refine (next_any g K _ h (by omega)).mono ?_
    rintro e w1 ⟨v, rfl, v0, v1, s1, g1⟩
    go_wp2_with fail
    refine (next_any g (K + 1) _ s1 (by omega)).mono ?_
    rintro e w2 ⟨v', rfl, v0', v1', s2, g2⟩
    go_wp2_with fail
    go_ret
    exact ⟨_, rfl, Int.emod_nonneg _ (by omega), by have := Int.emod_lt_of_pos (v * 256 + v') (show 0 < n by omega); omega, s2, gb_trans g1 g2⟩
def DrawB (w : World) (g K : Nat) (e : Ending) (w' : World) : Prop := ∃ b : Bool, e = .returned (.bool b) ∧ Src w' g K ∧ w.grownBy w' (some g)
theorem one_any (g K : Nat) (n : Int) (w : World) (h : Src w g K) (hK : K ≤ 100000000) (hn : n ≤ 1000) :
    Calls Tryz.prog 57 #[.pointer (some ⟨g, 0, none⟩), .int .i64 n] w (DrawB w g (K + 2)) := by
  go_enter Tryz.func57, Tryz.ntmps57
  go_wp2_with fail
  refine (pick_any g K n 1000 _ h hK hn (by omega)).mono ?_
  rintro e w1 ⟨v, rfl, v0, v1, s1, g1⟩
  go_wp2_with fail
  go_ret
  exact ⟨_, rfl, s1, g1⟩
end Go.Proofs.YtmdmgndhapdmgaaGreat


/-
  The draw of a plain word: its letters are right, and it is not too long.
-/
namespace Go.Proofs.YtmdmgndhapdmgaaGreat
open Go.RowKit

theorem elem_byte : Elem Tryz.prog 22 5 1 1 := Elem.mk' (z := .int .u8 0) Tryz.underlying22 (by kernel_rfl) rfl
/-- what the draw of a word leaves -/
def StrDraw (w : World) (g K : Nat) (most : Int) (e : Ending) (w' : World) : Prop :=
  ∃ s : ByteArray, e = .returned (.string s) ∧ (s.size : Int) ≤ most ∧ s.data.toList.all letB = true ∧ Src w' g K ∧ w.grownBy w' (some g)
theorem byteE_of {v : Int} (h0 : 0 ≤ v) (h1 : v < 4) : #[Value.int .u8 (97 + v)].toList = byteE (UInt8.ofNat (97 + v.toNat)) ∧ letB (UInt8.ofNat (97 + v.toNat)) = true := by
  obtain ⟨j, rfl⟩ := Int.eq_ofNat_of_zero_le h0
  have e : (UInt8.ofNat (97 + j)).toNat = 97 + j := by rw [UInt8.toNat_ofNat']; omega
  constructor
  · simp only [byteE, Int.toNat_natCast, e]; simp
  · simp only [letB, Int.toNat_natCast, e]; simp; omega

theorem conv_own {w : World} {base n c : Nat} {A : Option Addr} {bs : List UInt8} (h : w.ownsRow base 5 1 (.slice A n c) n (bs.flatMap byteE)) (hl : bs.length = n) :
    (convert 22 9 (.slice A n c)).run Tryz.prog w = .ok (.string ⟨bs.toArray⟩) w := by
  subst hl
  cases A with
  | some a =>
    refine run_convert_bytes_back (P := Tryz.prog) w _ _ 5 a c bs Tryz.underlying22 Tryz.underlying5 Tryz.underlying9 fun j hj => ?_
    obtain ⟨g, cap, hv, _, _⟩ := h.form (by omega)
    obtain rfl := Option.some.inj (show some a = some ⟨g, 0, none⟩ from by injection hv)
    have := h.cells (g := g) rfl j _ (by
      have := flat_at (enc := byteE) (sz := 1) bs (fun _ _ => rfl) j _ (List.getElem?_eq_getElem hj) 0 (by omega)
      rw [Nat.mul_one, Nat.add_zero] at this
      rw [this]; rfl)
    simpa using this
  | none =>
    rcases h.2 with ⟨h1, h2⟩ | ⟨g, cap, cur, hv, _⟩
    · obtain rfl : bs = [] := List.eq_nil_of_length_eq_zero (by omega)
      rw [run_convert_bytes_string w _ _ 5 none _ c Tryz.underlying22 Tryz.underlying5 Tryz.underlying9]
      simp [Conv.bytesToString, go_sem]
      rfl
    · cases hv
theorem ext_let {s : ByteArray} (h : s.data.toList.all letB = true) (i j : Nat) : (s.extract i j).data.toList.all letB = true := by
  rw [ByteArray.data_extract, Array.toList_extract]
  rw [List.all_eq_true] at *
  intro x hx
  exact h x (List.mem_of_mem_drop (List.mem_of_mem_take hx))
end Go.Proofs.YtmdmgndhapdmgaaGreat


/-
  Level grammars: the plain part: rules with their depths, and how two level rules are made one.
-/
namespace Go.Proofs.YtmdmgndhapdmgaaGreat

structure LvS where
  rs : List Fac
  ds : List Int
def lvD (s : LvS) (k : Int) : Int := s.ds.getD k.toNat 0
def lvR (s : LvS) (k : Int) : Fac := s.rs.getD k.toNat default
def lvDep (s : LvS) (r : Fac) : Int := if r.l.size = 0 then max (lvD s r.a) (lvD s r.b) + 1 else 1
/-- what holds of rules and depths -/
structure LvI (s : LvS) : Prop where
  len : s.ds.length = s.rs.length
  wf : WF s.rs
  dep : ∀ (k : Nat) (r : Fac), s.rs[k]? = some r → lvD s (k : Int) = lvDep s r
  lo : ∀ k : Nat, k < s.rs.length → 1 ≤ lvD s (k : Int) ∧ lvD s (k : Int) ≤ (k : Int) + 1
def Idx (s : LvS) (k : Int) : Prop := 0 ≤ k ∧ k < (s.rs.length : Int)
/-- what an operation does -/
structure LvO (s : LvS) (t : LvS × Int) (g : Nat) : Prop where
  i : LvI t.1
  ext : ∃ er ed, t.1.rs = s.rs ++ er ∧ t.1.ds = s.ds ++ ed
  ix : Idx t.1 t.2
  len : t.1.rs.length ≤ s.rs.length + g
theorem LvO.grow {s : LvS} {t : LvS × Int} {g : Nat} (h : LvO s t g) : s.rs.length ≤ t.1.rs.length := by
  obtain ⟨er, ed, h1, _⟩ := h.ext
  rw [h1, List.length_append]; omega
theorem LvO.r {s : LvS} {t : LvS × Int} {g : Nat} (h : LvO s t g) {k : Int} (hk : Idx s k) : lvR t.1 k = lvR s k := by
  obtain ⟨er, ed, h1, _⟩ := h.ext
  unfold lvR
  rw [h1, List.getD_eq_getElem?_getD, List.getD_eq_getElem?_getD, List.getElem?_append_left (by have := hk.1; have := hk.2; omega)]
theorem LvO.d {s : LvS} {t : LvS × Int} {g : Nat} (hs : LvI s) (h : LvO s t g) {k : Int} (hk : Idx s k) : lvD t.1 k = lvD s k := by
  obtain ⟨er, ed, _, h2⟩ := h.ext
  unfold lvD
  rw [h2, List.getD_eq_getElem?_getD, List.getD_eq_getElem?_getD, List.getElem?_append_left (by have := hk.1; have := hk.2; have := hs.len; omega)]
theorem LvO.trans {s : LvS} {t u : LvS × Int} {g1 g2 : Nat} (h1 : LvO s t g1) (h2 : LvO t.1 u g2) : LvO s u (g1 + g2) := by
  obtain ⟨e1, d1, a1, b1⟩ := h1.ext
  obtain ⟨e2, d2, a2, b2⟩ := h2.ext
  exact ⟨h2.i, ⟨e1 ++ e2, d1 ++ d2, by rw [a2, a1, List.append_assoc], by rw [b2, b1, List.append_assoc]⟩, h2.ix, by have := h1.len; have := h2.len; omega⟩
theorem LvO.more {s : LvS} {t : LvS × Int} {g g' : Nat} (h : LvO s t g) (hg : g ≤ g') : LvO s t g' := ⟨h.i, h.ext, h.ix, by have := h.len; omega⟩
end Go.Proofs.YtmdmgndhapdmgaaGreat


/-
  Level grammars: rules and depths in memory, what a call leaves as it was.
-/
namespace Go.Proofs.YtmdmgndhapdmgaaGreat
open Go.RowKit

section
variable {α : Type} {P : Program} {w : World} {ops : Array Oper} {o : Oper} {a : Act} {K : Act → World → Prop} {Q : Exit → Act → World → Prop} {E : Prop}
/-- one element more, as a step of a region that draws its order; where the row lies then -/
theorem step_pushL (hgd : o.guard = none) (s x : Operand) (t : TypeId) (ho : o.op = .call { callee := .builtin .append, args := #[s, x], argTypes := #[t, t] })
    (base : Nat) (e : TypeId) (sz bytes : Nat) (EI : Elem P t e sz bytes) (enc : α → List Value) (A : Option Addr) (n c : Nat) (xs : List α) (hs : a.eval s = .slice A n c)
    (hown : w.ownsRow base e sz (.slice A n c) n (xs.flatMap enc)) (g : Nat) (y : α) (cs : Array Value) (t' : TypeId) (fr : Nat × Nat) (hx : a.eval x = .slice (some ⟨g, 0, none⟩) 1 1) (hg : w.heap[g]? = some (.cells cs t' fr)) (hcs : cs.toList = enc y)
    (hlen : (enc y).length = sz) (hone : ∀ u ∈ enc y, u.oneCell' = true) (hsz : 0 < sz) (hbytes : (n + 1) * bytes ≤ 140737488355328) (hm : n + 1 ≤ maxLen) (hsize : base ≤ w.heap.size)
    (h : ∀ A' c' w', w'.ownsRow base e sz (.slice A' (n + 1) c') (n + 1) ((xs ++ [y]).flatMap enc) → w.grownBy w' (Value.slice A n c).ownBlock →
      ((Value.slice A' (n + 1) c').ownBlock = (Value.slice A n c).ownBlock ∨ (Value.slice A' (n + 1) c').ownBlock = some w.heap.size) →
      K (a.put o.dst (.slice A' (n + 1) c')) w') : if Region.wanted o (yielded ops a.tmps) = true then Oper.wp P o a w K Q else E := by
  obtain ⟨ht, i, z, hi, hz, h1, h2, hzs⟩ := EI
  have hnews : ∀ j u, (enc y)[j]? = some u → w.cell? ((⟨g, 0, none⟩ : Addr).add j) = some u := by rw [← hcs]; exact World.news_of_block hg
  obtain ⟨v', w', hr, r2, r3, _, r5⟩ := run_append_own_at (P := P) w base t o.type e i z sz bytes ht hi hz h1 h2 hzs hsz _ n _ hown ⟨g, 0, none⟩ 1 1 (enc y) (by rw [hlen]; omega) hnews hone hm hbytes hsize
  obtain ⟨g', cap, rfl, _, _⟩ := r2.form (by omega)
  have hw : Region.wanted o (yielded ops a.tmps) = true := by simp [Region.wanted, hgd]
  rw [if_pos hw]
  unfold Oper.wp execOp
  simp only [ho, resolve, invoke, builtin, Sem.run_bind, Sem.run_pure, Result.andThen_ok, List.map_toArray, List.map_cons, List.map_nil, hs, hx, hr]
  exact h _ _ w' (by rw [List.flatMap_append]; simpa using r2) r3 r5
end
/-- rules and depths, in a box of type T whose third cell is z -/
structure LvG (T : TypeId) (w0 W : World) (X : Nat) (z : Value) (A : Option Addr) (n c : Nat) (B : Option Addr) (m d : Nat) (rs : List Fac) (ds : List Int) : Prop where
  q : W.ownsRow w0.heap.size 72 3 (.slice A n c) n (rs.flatMap Fac.cells)
  k : W.ownsRow w0.heap.size 2 1 (.slice B m d) m (ds.flatMap intE)
  x : Blk W X T #[.slice A n c, .slice B m d, z]
  e : Below w0.heap.size w0 W
  hx : w0.heap.size ≤ X
  t1 : 72 ≠ T
  t2 : 2 ≠ T
/-- what a call leaves as it was: all but the box, the map and the two rows -/
structure LvF (W W' : World) (X M : Nat) (v v' u u' : Value) : Prop where
  size : W.heap.size ≤ W'.heap.size
  kept : ∀ x, x < W.heap.size → x ≠ X → x ≠ M → some x ≠ v.ownBlock → some x ≠ u.ownBlock → W'.heap[x]? = W.heap[x]?
  row : v'.ownBlock = v.ownBlock ∨ ∀ x, v'.ownBlock = some x → W.heap.size ≤ x
  row' : u'.ownBlock = u.ownBlock ∨ ∀ x, u'.ownBlock = some x → W.heap.size ≤ x
section
variable {w0 W W' W'' : World} {X M : Nat} {v v' v'' u u' u'' : Value}
theorem LvF.of_below (hb : Below W.heap.size W W') : LvF W W' X M v v u u := ⟨hb.size, fun x hx _ _ _ _ => hb.block x hx, .inl rfl, .inl rfl⟩
theorem LvF.trans (h1 : LvF W W' X M v v' u u') (h2 : LvF W' W'' X M v' v'' u' u'') : LvF W W'' X M v v'' u u'' := by
  refine ⟨Nat.le_trans h1.size h2.size, fun x hx hX hM hv hu => ?_, ?_, ?_⟩
  · rw [h2.kept x (Nat.lt_of_lt_of_le hx h1.size) hX hM (fun e => ?_) (fun e => ?_), h1.kept x hx hX hM hv hu]
    · rcases h1.row with q | q
      · rw [q] at e; exact hv e
      · have := q x e.symm; omega
    · rcases h1.row' with q | q
      · rw [q] at e; exact hu e
      · have := q x e.symm; omega
  · rcases h2.row with q | q
    · rw [q]; exact h1.row
    · exact .inr fun x hx => Nat.le_trans h1.size (q x hx)
  · rcases h2.row' with q | q
    · rw [q]; exact h1.row'
    · exact .inr fun x hx => Nat.le_trans h1.size (q x hx)
theorem LvF.box (h : LvF W W' X M v v' u u') {x : Nat} (hx : W.heap.size ≤ x) (i : Nat) (z : Value) : LvF W (W'.setCell ⟨x, i, none⟩ z) X M v v' u u' := by
  refine ⟨by have := h.size; have h2 := (gb_set W' x i z).4; omega, fun y hy hX hM hv hu => ?_, h.row, h.row'⟩
  rw [Below.heap_setCell W' ⟨x, i, none⟩ z y (show y ≠ x by omega)]
  exact h.kept y hy hX hM hv hu
theorem LvF.blk (h : LvF W W' X M v v' u u') {x : Nat} {t : TypeId} {cs : Array Value} (hB : Blk W x t cs) (hX : x ≠ X) (hM : x ≠ M) (hv : some x ≠ v.ownBlock) (hu : some x ≠ u.ownBlock) : Blk W' x t cs := (h.kept x hB.lt hX hM hv hu).trans hB
end
section
variable {T : TypeId} {w0 W W' : World} {X M : Nat} {z : Value} {A : Option Addr} {n c : Nat} {B : Option Addr} {m d : Nat} {rs : List Fac} {ds : List Int}
theorem LvG.next (h : LvG T w0 W X z A n c B m d rs ds) (hb : Below W.heap.size W W') : LvG T w0 W' X z A n c B m d rs ds :=
  ⟨own_next h.q hb, own_next h.k hb, h.x.next hb, h.e.trans (hb.mono h.e.size), h.hx, h.t1, h.t2⟩
theorem LvG.alloc (h : LvG T w0 W X z A n c B m d rs ds) (o : Obj) : LvG T w0 (W.alloc o) X z A n c B m d rs ds := h.next ((Below.refl _ _).alloc (Nat.le_refl _) _)
theorem LvG.drew (h : LvG T w0 W X z A n c B m d rs ds) : LvG T w0 W.drew X z A n c B m d rs ds := h.next (Below.refl _ _).drew
/-- the rules grow; the box is not yet told -/
structure LvG' (T : TypeId) (w0 W : World) (X : Nat) (z : Value) (A : Option Addr) (n c : Nat) (B : Option Addr) (m d : Nat) (rs : List Fac) (ds : List Int) (vx ux : Value) : Prop where
  q : W.ownsRow w0.heap.size 72 3 (.slice A n c) n (rs.flatMap Fac.cells)
  k : W.ownsRow w0.heap.size 2 1 (.slice B m d) m (ds.flatMap intE)
  x : Blk W X T #[vx, ux, z]
  e : Below w0.heap.size w0 W
  hx : w0.heap.size ≤ X
  t1 : 72 ≠ T
  t2 : 2 ≠ T
theorem LvG.open (h : LvG T w0 W X z A n c B m d rs ds) : LvG' T w0 W X z A n c B m d rs ds (.slice A n c) (.slice B m d) := ⟨h.q, h.k, h.x, h.e, h.hx, h.t1, h.t2⟩
theorem LvG'.shut (h : LvG' T w0 W X z A n c B m d rs ds (.slice A n c) (.slice B m d)) : LvG T w0 W X z A n c B m d rs ds := ⟨h.q, h.k, h.x, h.e, h.hx, h.t1, h.t2⟩
variable {vx ux : Value}
theorem LvG'.next (h : LvG' T w0 W X z A n c B m d rs ds vx ux) (hb : Below W.heap.size W W') : LvG' T w0 W' X z A n c B m d rs ds vx ux :=
  ⟨own_next h.q hb, own_next h.k hb, h.x.next hb, h.e.trans (hb.mono h.e.size), h.hx, h.t1, h.t2⟩
theorem LvG'.alloc (h : LvG' T w0 W X z A n c B m d rs ds vx ux) (o : Obj) : LvG' T w0 (W.alloc o) X z A n c B m d rs ds vx ux := h.next ((Below.refl _ _).alloc (Nat.le_refl _) _)
theorem LvG'.drew (h : LvG' T w0 W X z A n c B m d rs ds vx ux) : LvG' T w0 W.drew X z A n c B m d rs ds vx ux := h.next (Below.refl _ _).drew
theorem LvG'.pushR {A8 : Option Addr} {k8 c8 : Nat} {rs' : List Fac} (h : LvG' T w0 W X z A n c B m d rs ds vx ux) (hq : W'.ownsRow w0.heap.size 72 3 (.slice A8 k8 c8) k8 (rs'.flatMap Fac.cells)) (hg : W.grownBy W' (Value.slice A n c).ownBlock) :
    LvG' T w0 W' X z A8 k8 c8 B m d rs' ds vx ux :=
  ⟨hq, h.k.kept hg (own_ne h.k h.q (by decide)), h.x.grown hg (own_blk_ne h.q h.x h.t1), h.e.grown hg h.e.size (own_ge h.q), h.hx, h.t1, h.t2⟩
theorem LvG'.set1 (h : LvG' T w0 W X z A n c B m d rs ds vx ux) (y : Value) : LvG' T w0 (W.setCell ⟨X, 1, none⟩ y) X z A n c B m d rs ds vx y :=
  ⟨own_kept' h.q h.x h.t1 _, own_kept' h.k h.x h.t2 _, h.x.set_ 1 _, h.e.setCell h.hx _, h.hx, h.t1, h.t2⟩
theorem LvG'.put {mm : List (Fac × Value)} (h : LvG' T w0 W X z A n c B m d rs ds vx ux) (hm : MapIs W M Fac.val mm) (hne : M ≠ X) (hg : W.grownBy W' (some M)) (hb : Below w0.heap.size w0 W') : LvG' T w0 W' X z A n c B m d rs ds vx ux :=
  have ne : ∀ {e sz n : Nat} {v : Value} {xs : List Value}, W.ownsRow w0.heap.size e sz v n xs → v.ownBlock = none ∨ v.ownBlock ≠ some M := fun ho => by
    have := hm.ne_own ho
    exact .inr fun e => this e.symm
  ⟨h.q.kept hg (ne h.q), h.k.kept hg (ne h.k), h.x.grown hg (by intro e; injection e with e; exact hne e.symm), hb, h.hx, h.t1, h.t2⟩
end
end Go.Proofs.YtmdmgndhapdmgaaGreat


/-
  The draw of a grammar: it is valid, and its word is not too long.
-/
namespace Go.Proofs.YtmdmgndhapdmgaaGreat
open Go.RowKit

/-- a grammar that is drawn under way -/
structure DgW (w W : World) (g K : Nat) (A : Option Addr) (n c : Nat) (rs : List Fac) : Prop where
  q : W.ownsRow w.heap.size 72 3 (.slice A n c) n (rs.flatMap Fac.cells)
  r : Blk W w.heap.size 31 #[.slice none 0 0]
  x : Blk W (w.heap.size + 1) 31 #[.slice A n c]
  s : Src W g K
  e : w.grownBy W (some g)
  hg : g < w.heap.size
section
variable {w W W' : World} {g K : Nat} {A : Option Addr} {n c : Nat} {rs : List Fac}
theorem DgW.next (h : DgW w W g K A n c rs) (hb : Below W.heap.size W W') : DgW w W' g K A n c rs := ⟨own_next h.q hb, h.r.next hb, h.x.next hb, h.s.next hb, gb_next h.e hb, h.hg⟩
theorem DgW.alloc (h : DgW w W g K A n c rs) (o : Obj) : DgW w (W.alloc o) g K A n c rs := h.next ((Below.refl _ _).alloc (Nat.le_refl _) _)
theorem DgW.pick {K' : Nat} (h : DgW w W g K A n c rs) (hs : Src W' g K') (hg : W.grownBy W' (some g)) : DgW w W' g K' A n c rs :=
  ⟨own_kept h.q hg h.hg, h.r.grown hg (by intro e; injection e with e; have := h.hg; omega), h.x.grown hg (by intro e; injection e with e; have := h.hg; omega), hs, gb_trans h.e hg, h.hg⟩
theorem DgW.keepAt {ga b : Nat} (h : DgW w W g K (some ⟨ga, 0, none⟩) n c rs) (hg : W.grownBy W' (some b)) (hb : w.heap.size + 2 ≤ b) (hne : ga ≠ b) : DgW w W' g K (some ⟨ga, 0, none⟩) n c rs :=
  ⟨h.q.kept hg (.inr (by intro e; have e2 : some ga = some b := e; injection e2 with e2; exact hne e2)), h.r.grown hg (by intro e; injection e with e; omega), h.x.grown hg (by intro e; injection e with e; omega), h.s.grown hg (fun k e => by injection e with e; have := h.hg; omega),
    gb_weak h.e hg (by omega), h.hg⟩
theorem DgW.news {ga : Nat} (h : DgW w W g K (some ⟨ga, 0, none⟩) n c rs) : ∀ j u, (rs.flatMap Fac.cells)[j]? = some u → W.cell? ((⟨ga, 0, none⟩ : Addr).add j) = some u := fun j u hu => h.q.cells (g := ga) rfl j u hu
/-- the grammar is put anew -/
theorem DgW.put {A' : Option Addr} {n' c' : Nat} {rs' : List Fac} (h : DgW w W g K A n c rs) (hq : W.ownsRow w.heap.size 72 3 (.slice A' n' c') n' (rs'.flatMap Fac.cells)) : DgW w (W.setCell ⟨w.heap.size + 1, 0, none⟩ (.slice A' n' c')) g K A' n' c' rs' := by
  have hg := gb_set W (w.heap.size + 1) 0 (.slice A' n' c')
  exact ⟨own_kept' hq h.x (by decide) _, h.r.grown hg (by intro e; injection e with e; omega), h.x.set_ 0 _, h.s.grown hg (fun k e => by injection e with e; have := h.hg; omega), gb_weak h.e hg (by omega), h.hg⟩
/-- the result told -/
theorem DgW.done (h : DgW w W g K A n c rs) (hl : rs.length = n) : (W.setCell ⟨w.heap.size, 0, none⟩ (.slice A n c)).ownsRow w.heap.size 72 3 (.slice A rs.length c) rs.length (rs.flatMap Fac.cells) ∧
    Src (W.setCell ⟨w.heap.size, 0, none⟩ (.slice A n c)) g K ∧ w.grownBy (W.setCell ⟨w.heap.size, 0, none⟩ (.slice A n c)) (some g) := by
  have hg := gb_set W w.heap.size 0 (.slice A n c)
  rw [hl]
  exact ⟨own_kept' h.q h.r (by decide) _, h.s.grown hg (fun k e => by injection e with e; have := h.hg; omega), gb_weak h.e hg (Nat.le_refl _)⟩
/-- one rule more in the row, the grammar put anew -/
theorem DgW.push {A' : Option Addr} {n' c' : Nat} {rs' : List Fac} (h : DgW w W g K A n c rs) (hq : W'.ownsRow w.heap.size 72 3 (.slice A' n' c') n' (rs'.flatMap Fac.cells)) (hg : W.grownBy W' (Value.slice A n c).ownBlock) :
    DgW w (W'.setCell ⟨w.heap.size + 1, 0, none⟩ (.slice A' n' c')) g K A' n' c' rs' := by
  have hx := h.x.grown hg (own_blk_ne h.q h.x (by decide))
  have hg2 := gb_set W' (w.heap.size + 1) 0 (.slice A' n' c')
  have hs := h.s.grown hg (fun k e => by have := own_ge h.q k e; have := h.hg; omega)
  exact ⟨own_kept' hq hx (by decide) _, (h.r.grown hg (own_blk_ne h.q h.r (by decide))).grown hg2 (by intro e; injection e with e; omega), hx.set_ 0 _, hs.grown hg2 (fun k e => by injection e with e; have := h.hg; omega),
    gb_weak (gb_weak' h.e hg (own_ge h.q)) hg2 (by omega), h.hg⟩
end
/-- what is drawn -/
structure DgOk (rs : List Fac) (most : Int) : Prop where
  wf : WF rs
  pos : 0 < rs.length
  few : rs.length ≤ 14
  len : ((wdN rs).length : Int) ≤ most
def GrDraw (w : World) (g K : Nat) (most : Int) (e : Ending) (w' : World) : Prop :=
  ∃ A c rs, e = .returned (.agg #[.slice A rs.length c]) ∧ DgOk rs most ∧ w'.ownsRow w.heap.size 72 3 (.slice A rs.length c) rs.length (rs.flatMap Fac.cells) ∧ Src w' g K ∧ w.grownBy w' (some g)
def ltR (k : Nat) : List Fac := (List.range k).map fun i => ruleC (UInt8.ofNat (97 + i))
theorem ltR_succ (k : Nat) : ltR (k + 1) = ltR k ++ [ruleC (UInt8.ofNat (97 + k))] := by unfold ltR; rw [List.range_succ, List.map_append]; rfl
theorem ltR_len (k : Nat) : (ltR k).length = k := by simp [ltR]
theorem ltR_wf {k : Nat} (hk : k ≤ 4) : WF (ltR k) := fun i r hr => by
  unfold ltR at hr
  rw [List.getElem?_map] at hr
  obtain ⟨j, hj, rfl⟩ := Option.map_eq_some_iff.1 hr
  have hj2 : j < k := by have := List.mem_of_getElem? hj; simpa using this
  have e : (UInt8.ofNat (97 + j)).toNat = 97 + j := by rw [UInt8.toNat_ofNat']; omega
  exact .inr ⟨_, by simp [letB, e]; omega, rfl, rfl, rfl⟩
theorem ltR_ok {k : Nat} (h0 : 0 < k) (hk : k ≤ 4) {most : Int} (hm : 1 ≤ most) : DgOk (ltR k) most := by
  refine ⟨ltR_wf hk, by rw [ltR_len]; exact h0, by rw [ltR_len]; omega, ?_⟩
  obtain ⟨j, rfl⟩ : ∃ j, k = j + 1 := ⟨k - 1, by omega⟩
  have e : wdN (ltR (j + 1)) = [(UInt8.ofNat (97 + j)).toNat - 97] := by
    unfold wdN
    rw [if_neg (by intro e; have := ltR_len (j + 1); rw [e] at this; simp at this), ltR_len]
    refine wds_one (r := ruleC (UInt8.ofNat (97 + j))) (c := UInt8.ofNat (97 + j)) ?_ rfl
    rw [ltR_succ, List.getElem?_append_right (by rw [ltR_len]; omega), ltR_len]
    simp
  rw [e]; simpa using hm
theorem dg_gok {rs : List Fac} (hwf : WF rs) (hn : rs.length ≤ 15) : (gOk rs).isSome = true := small_ok hwf (by omega)
theorem wf_sz {rs : List Fac} (hwf : WF rs) : ∀ f ∈ rs, f.l.size ≤ maxLen := by
  intro f hf
  obtain ⟨k, hk, rfl⟩ := List.getElem_of_mem hf
  rcases hwf k _ (List.getElem?_eq_getElem hk) with ⟨h0, _⟩ | ⟨c, _, hl, _⟩
  · unfold maxLen; omega
  · rw [hl]; show 1 ≤ maxLen; unfold maxLen; omega
theorem wf_snoc' {rs : List Fac} (h : WF rs) {l r : Int} (l0 : 0 ≤ l) (l1 : l < rs.length) (r0 : 0 ≤ r) (r1 : r < rs.length) : WF (rs ++ [⟨.empty, l, r⟩]) := wf_snoc h ⟨l0, l1⟩ ⟨r0, r1⟩
set_option maxHeartbeats 16000000 in
set_option maxRecDepth 100000 in
theorem l02Drawn_any (g K : Nat) (most : Int) (w : World) (h : Src w g K) (hK : K ≤ 10000000) (hm0 : 1 ≤ most) (hm : most ≤ 100000) :
    Calls Tryz.prog 20 #[.pointer (some ⟨g, 0, none⟩), .int .i64 most] w (GrDraw w g (K + 1000) most) := by
  have hg := h.lt
  have H0 := Lib.hid h; clear h
  go_enter Tryz.func20, Tryz.ntmps20
  go_wp2_with fail
  refine namedC fun w1 H1 => ?_
  have hb1 : Below w.heap.size w w1 := by rw [H1.out]; (repeat first | exact Below.refl _ _ | assumption | refine Below.drew ?_ | refine Below.alloc ?_ (by first | exact Nat.le_refl _ | (simp; done) | omega | (simp; omega)) _ | refine Below.setCell ?_ (by first | exact Nat.le_refl _ | (simp; done) | omega | (simp; omega)) _)
  have P1 := Lib.hid (show DgW w w1 g K none 0 0 [] from ⟨World.ownsRow_nil _ _ _ _, by rw [H1.out]; exact (Blk.new w _ _).alloc _, by rw [H1.out]; simpa using Blk.new (w.alloc (.cells #[.slice none 0 0] 31)) 31 #[.slice none 0 0], H0.out.next hb1, gb_below hb1, hg⟩)
  clear H1 hb1 H0
  refine (pick_any g K 3 3 w1 P1.out.s (by omega) (by omega) (by omega)).mono ?_
  rintro e w2 ⟨v, rfl, v0, v1, s2, g2⟩
  have P2 := Lib.hid (P1.out.pick s2 g2)
  obtain ⟨L, hL⟩ : ∃ L : Nat, 1 + v = L := ⟨(1 + v).toNat, by omega⟩
  have hL1 : 1 ≤ L := by omega
  have hL3 : L ≤ 3 := by omega
  have um : IntKind.i64.wrap (1 + v) = (L : Int) := by rw [IntWalk.i64_in _ (by omega)]; exact hL
  clear s2 g2 P1
  go_wp2_with fail
  have HLL := Lib.hid hL
  clear um hL v0 v1
  go_loopw [7] (fun k_ w' => ∃ (k : Nat) (A : Option Addr) (c : Nat), k_ = .int .i64 k ∧ k ≤ L ∧ Hid (DgW w w' g (K + 2) A k c (ltR k))) (fun k_ _ => L - (intOf k_).toNat)
  case atStart => exact ⟨0, none, 0, rfl, by omega, P2⟩
  case round =>
    obtain ⟨k, A, c, rfl, hk, P⟩ := hrel
    clear P2
    by_cases hlt : k < L
    · have i1 : (k : Int) < (L : Int) := by omega
      obtain ⟨u, hu⟩ : ∃ u : UInt8, UInt8.ofNat (97 + k) = u := ⟨_, rfl⟩
      have hu' : (u.toNat : Int) = 97 + k := by rw [← hu, UInt8.toNat_ofNat']; omega
      have HU := Lib.hid hu
      have d0 := P.out.x.cell 0
      have dl := P.out.x.lt
      have hcv := conv_letter (wr.alloc (.cells #[.int .u8 (97 + (k : Int))] 5)) wr.heap.size 1 u (by rw [hu']; simp)
      have Q2 := Lib.hid (P.out.alloc (.cells #[.int .u8 (97 + (k : Int))] 5))
      have BN0 := Blk.new (wr.alloc (.cells #[.int .u8 (97 + (k : Int))] 5)) 72 #[.string (ruleC u).l, .int .i64 (ruleC u).a, .int .i64 (ruleC u).b]
      have sz4 : (wr.alloc (.cells #[.int .u8 (97 + (k : Int))] 5)).heap.size = wr.heap.size + 1 := by simp
      rw [sz4] at BN0
      have BN := Lib.hid BN0
      clear BN0 sz4
      have Q3 := Lib.hid (Q2.out.alloc (.cells #[.string ⟨#[u]⟩, .int .i64 0, .int .i64 0] 72))
      clear hu hu'
      go_wp2_with
        (at_builtin
         refine wpList_pushG rfl _ _ _ rfl w.heap.size 72 3 32 elem_rule Fac.cells A k c (ltR k) rfl Q3.out.q (wr.heap.size + 1) (ruleC u) #[.string (ruleC u).l, .int .i64 (ruleC u).a, .int .i64 (ruleC u).b] 72 (0, 0) rfl BN.out rfl rfl (one_fac _) (by omega) (by omega) (by unfold maxLen; omega) (by have := Q3.out.x.lt; omega) ?_
         intro A9 c9 w9 own9 hg9 hat9
         have Q9 := Lib.hid (Q3.out.push own9 hg9)
         have G9 := Q3.out.x.grown hg9 (own_blk_ne Q3.out.q Q3.out.x (by decide))
         have f9 := G9.frozen
         have d9 := G9.cell 0
         have l9 := G9.lt
         clear own9 hg9 hat9 G9)
      go_roundw
      case rel => exact ⟨k + 1, A9, c9, by go_num, by omega, Lib.hid (by rw [ltR_succ, HU.out]; exact Q9.out)⟩
      case measure => simp [intOf]; omega
    · obtain rfl : k = L := by omega
      have ok0 := Lib.hid (ltR_ok (most := most) hL1 (by omega) hm0)
      have HLn0 := Lib.hid (ltR_len k)
      go_wp2_with fail
      refine (pick_any g (K + 2) 12 12 wr P.out.s (by omega) (by omega) (by omega)).mono ?_
      rintro e w3 ⟨z, rfl, z0, z1, s3, g3⟩
      have P3 := Lib.hid (P.out.pick s3 g3)
      clear s3 g3 P
      generalize ltR k = rs0 at *
      go_wp2_with fail
      go_loopw [8] (fun z_ w' => ∃ (z : Nat) (A : Option Addr) (n c K2 : Nat) (rs : List Fac), z_ = .int .i64 z ∧ n + z ≤ 14 ∧ 1 ≤ n ∧ K2 + 10 * z ≤ K + 200 ∧ Hid (rs.length = n) ∧ Hid (DgOk rs most) ∧ Hid (DgW w w' g K2 A n c rs)) (fun z_ _ => (intOf z_).toNat)
      case atStart => exact ⟨z.toNat, _, k, _, K + 2 + 2, rs0, by congr 1; omega, by omega, hL1, by omega, HLn0, ok0, P3⟩
      case round =>
        obtain ⟨z, A, n, c, K2, rs, rfl, hnz, hn1, hK2, HLn, HOk, P⟩ := hrel
        clear P3 ok0 HLn0
        have d0 := P.out.x.cell 0
        have dl := P.out.x.lt
        by_cases hz : 0 < z
        · obtain ⟨ga, cap0, hv0, hga0, hga1⟩ := P.out.q.form hn1
          obtain rfl : A = some ⟨ga, 0, none⟩ := by injection hv0
          have z1 : (0 : Int) < (z : Int) := by omega
          clear hv0 hga0 hga1
          go_wp2_with fail
          refine (pick_any g K2 n n wr P.out.s (by omega) (by omega) (by omega)).mono ?_
          rintro e w3 ⟨v1, rfl, v10, v11, s3, g3⟩
          have P3 := Lib.hid (P.out.pick s3 g3)
          clear s3 g3 d0 dl P
          go_wp2_with fail
          refine (pick_any g (K2 + 2) n n w3 P3.out.s (by omega) (by omega) (by omega)).mono ?_
          rintro e w4 ⟨v2, rfl, v20, v21, s4, g4⟩
          have P4 := Lib.hid (P3.out.pick s4 g4)
          clear s4 g4 P3
          go_wp2_with fail
          refine namedC fun w5 H5 => ?_
          have hb5 : Below w4.heap.size w4 w5 := by rw [H5.out]; (repeat first | exact Below.refl _ _ | assumption | refine Below.drew ?_ | refine Below.alloc ?_ (by first | exact Nat.le_refl _ | (simp; done) | omega | (simp; omega)) _ | refine Below.setCell ?_ (by first | exact Nat.le_refl _ | (simp; done) | omega | (simp; omega)) _)
          have BR5 := Lib.hid (show Blk w5 w4.heap.size 72 #[.string .empty, .int .i64 v1, .int .i64 v2] by rw [H5.out]; exact Blk.new _ _ _)
          have P5 := Lib.hid (P4.out.next hb5)
          have gr0 : w.heap.size + 1 < w4.heap.size := P4.out.x.lt
          have gr1 : ga < w4.heap.size := (P4.out.q.lt ga rfl).2
          clear H5 hb5
          generalize hgr : w4.heap.size = gr at *
          clear hgr P4
          have um : IntKind.i64.wrap ((n : Int) - 1) = ((n - 1 : Nat) : Int) := by rw [IntWalk.i64_in _ (by omega)]; omega
          refine (one_any g (K2 + 2 + 2) 2 w5 P5.out.s (by omega) (by omega)).mono ?_
          rintro e w6 ⟨b1, rfl, s6, g6⟩
          have P6 := Lib.hid (P5.out.pick s6 g6)
          have BR6 := Lib.hid (BR5.out.grown g6 (by intro e; injection e with e; omega))
          have c61 := BR6.out.cell 1
          have c6f := BR6.out.frozen
          have c6l := BR6.out.lt
          clear s6 g6 P5 BR5
          go_upto_if 49 with fail
          go_cut [] (fun wx => ∃ l : Int, 0 ≤ l ∧ l < (n : Int) ∧ Hid (DgW w wx g (K2 + 2 + 2 + 2) (some ⟨ga, 0, none⟩) n c rs) ∧ Hid (Blk wx gr 72 #[.string .empty, .int .i64 l, .int .i64 v2]))
          case first =>
            cases b1
            · go_wp2_with fail
              go_meet
              exact ⟨v1, v10, v11, P6, BR6⟩
            · have P7 := Lib.hid (P6.out.keepAt (gb_set w6 gr 1 (.int .i64 ((n - 1 : Nat) : Int))) (by omega) (by omega))
              have BR7 := Lib.hid (BR6.out.set_ 1 (.int .i64 ((n - 1 : Nat) : Int)))
              go_wp2_with fail
              go_meet
              exact ⟨((n - 1 : Nat) : Int), by omega, by omega, P7, BR7⟩
          case rest =>
            obtain ⟨l, l0, l1, P7, BR7⟩ := hcut
            clear P6 BR6 c61 c6f c6l v10 v11
            go_wp2_with fail
            refine (one_any g (K2 + 2 + 2 + 2) 3 wc P7.out.s (by omega) (by omega)).mono ?_
            rintro e w8 ⟨b2, rfl, s8, g8'⟩
            have P8 := Lib.hid (P7.out.pick s8 g8')
            have BR8 := Lib.hid (BR7.out.grown g8' (by intro e; injection e with e; omega))
            have c81 := BR8.out.cell 2
            have c8f := BR8.out.frozen
            have c8l := BR8.out.lt
            clear s8 g8' P7 BR7
            go_upto_if 54 with fail
            go_cut [] (fun wx => ∃ r : Int, 0 ≤ r ∧ r < (n : Int) ∧ Hid (DgW w wx g (K2 + 2 + 2 + 2 + 2) (some ⟨ga, 0, none⟩) n c rs) ∧ Hid (Blk wx gr 72 #[.string .empty, .int .i64 l, .int .i64 r]))
            case first =>
              cases b2
              · go_wp2_with fail
                go_meet
                exact ⟨v2, v20, v21, P8, BR8⟩
              · have P9 := Lib.hid (P8.out.keepAt (gb_set w8 gr 2 (.int .i64 ((n - 1 : Nat) : Int))) (by omega) (by omega))
                have BR9 := Lib.hid (BR8.out.set_ 2 (.int .i64 ((n - 1 : Nat) : Int)))
                go_wp2_with fail
                go_meet
                exact ⟨((n - 1 : Nat) : Int), by omega, by omega, P9, BR9⟩
            case rest =>
              obtain ⟨r, r0, r1, P, BR⟩ := hcut
              clear P8 BR8 c81 c8f c8l um v20 v21
              have hn0 : 0 < n := hn1
              generalize hK3 : K2 + 2 + 2 + 2 + 2 = K3 at *
              go_upto_region 16 with fail
              go_cut [11] (fun p_ wx => ∃ (g8 : Nat) (A6 : Option Addr) (c6 : Nat), p_ = .pointer (some ⟨g8, 0, none⟩) ∧ Hid (DgW w wx g K3 (some ⟨ga, 0, none⟩) n c rs) ∧ Hid (Blk wx g8 31 #[.slice A6 (n + 1) c6]) ∧
                Hid (wx.ownsRow w.heap.size 72 3 (.slice A6 (n + 1) c6) (n + 1) ((rs ++ [(⟨.empty, l, r⟩ : Fac)]).flatMap Fac.cells)) ∧ Hid (w.heap.size + 1 < g8))
              case first =>
                refine wp_region_N (fun W' => W'.cell? ⟨w.heap.size + 1, 0, none⟩ = some (.slice (some ⟨ga, 0, none⟩) n c) ∧ W'.cell? ⟨gr, 0, none⟩ = some (.string .empty) ∧ W'.cell? ⟨gr, 1, none⟩ = some (.int .i64 l) ∧ W'.cell? ⟨gr, 2, none⟩ = some (.int .i64 r)) [6, 7, 9] (by kernel_rfl) ?_
                have P_0 := Lib.hid (P.out.next (Below.refl _ _).drew)
                have BR_0 := Lib.hid BR.out.drew
                have hS0 : wc.drew.cell? ⟨w.heap.size + 1, 0, none⟩ = some (.slice (some ⟨ga, 0, none⟩) n c) ∧ wc.drew.cell? ⟨gr, 0, none⟩ = some (.string .empty) ∧ wc.drew.cell? ⟨gr, 1, none⟩ = some (.int .i64 l) ∧ wc.drew.cell? ⟨gr, 2, none⟩ = some (.int .i64 r) := ⟨P_0.out.x.cell 0, BR_0.out.three⟩
                have Hnews := Lib.hid (fun W (h : DgW w W g K3 (some ⟨ga, 0, none⟩) n c rs) => h.news)
                generalize wc.drew = wd at *
                refine wpAnyN_take (i := 1) (v := ?_) rfl (by kernel_rfl) (fun _ _ _ h => h) (by rfl) (fun W hW => ?_) hS0 ?_
                rotate_left
                · obtain ⟨z0, z1, z2, z3⟩ := hW
                  go_simp
                  try with_reducible rfl
                try simp only [List.getElem_toArray, List.getElem_cons_zero, List.getElem_cons_succ, Act.put, List.setIfInBounds_toArray, List.set_cons_zero, List.set_cons_succ]
                refine wpAnyN_take (i := 2) (v := ?_) rfl (by kernel_rfl) (fun _ _ _ h => h) (by rfl) (fun W hW => ?_) hS0 ?_
                rotate_left
                · obtain ⟨z0, z1, z2, z3⟩ := hW
                  go_simp
                  try with_reducible rfl
                try simp only [List.getElem_toArray, List.getElem_cons_zero, List.getElem_cons_succ, Act.put, List.setIfInBounds_toArray, List.set_cons_zero, List.set_cons_succ]
                refine wpAnyN_take (i := 4) (v := ?_) rfl (by kernel_rfl) (fun _ _ _ h => h) (by rfl) (fun W hW => ?_) hS0 ?_
                rotate_left
                · obtain ⟨z0, z1, z2, z3⟩ := hW
                  go_simp
                  try with_reducible rfl
                try simp only [List.getElem_toArray, List.getElem_cons_zero, List.getElem_cons_succ, Act.put, List.setIfInBounds_toArray, List.set_cons_zero, List.set_cons_succ]
                clear hS0
                refine wpAnyN_3 (i := 0) (j := 5) (l := 8) rfl rfl rfl (by kernel_rfl) ?_ ?_ ?_
                · intro Kc hK
                  go_simp
                  have P_1 := Lib.hid (P_0.out.alloc (.cells #[] 72))
                  have BR_1 := Lib.hid (BR_0.out.alloc (.cells #[] 72))
                  have OE_1 := Lib.hid (World.ownsRow_made (base := w.heap.size) (e := 72) (size := 3) wd #[] 0 (by have := P_0.out.x.lt; omega) (by unfold maxLen; omega) rfl)
                  have ne0_gr : gr < wd.heap.size := BR_0.out.lt
                  have ne0_ga : ga < wd.heap.size := (P_0.out.q.lt ga rfl).2
                  have e0_low : w.heap.size + 1 < wd.heap.size := P_0.out.x.lt
                  refine hK.out _ _ (fun _ => ⟨P_1.out.x.cell 0, BR_1.out.three⟩) ?_
                  clear hK Kc
                  try simp only [List.getElem_toArray, List.getElem_cons_zero, List.getElem_cons_succ, Act.put, List.setIfInBounds_toArray, List.set_cons_zero, List.set_cons_succ]
                  generalize wd.heap.size = e0 at *
                  generalize wd.alloc (.cells #[] 72) = x1 at *
                  clear P_0 BR_0
                  refine wpAnyN_3 (i := 3) (j := 5) (l := 8) rfl rfl rfl (by kernel_rfl) ?_ ?_ ?_
                  · intro Kc hK
                    refine step_copyL (by rfl) _ _ _ (by rfl) w.heap.size 72 3 32 elem_rule Fac.cells e0 (by rfl) OE_1.out ⟨ga, 0, none⟩ n c rs (by rfl) HLn.out hn0 (Hnews.out _ P_1.out) (fun x _ => fac_len x) (fun x _ => one_fac x) (by omega) (by omega) (by unfold maxLen; omega) P_1.out.e.size ?_
                    intro A3 c3 x2 own3 hg3 at3
                    obtain ⟨o3, cap3, hv3, _, _⟩ := own3.form hn0
                    obtain rfl : A3 = some ⟨o3, 0, none⟩ := by injection hv3
                    have h3_gr : gr < x1.heap.size := BR_1.out.lt
                    have h3_ga : ga < x1.heap.size := (P_1.out.q.lt ga rfl).2
                    have at3 : o3 = e0 ∨ o3 = x1.heap.size := at3.imp (fun h => Option.some.inj h) (fun h => Option.some.inj h)
                    have o3_low : w.heap.size + 1 < o3 := by have h := P_1.out.x.lt; rcases at3 with h3 | h3 <;> omega
                    have o3_gr : gr ≠ o3 := by rcases at3 with h3 | h3 <;> omega
                    have o3_ga : ga ≠ o3 := by rcases at3 with h3 | h3 <;> omega
                    have P_2 := Lib.hid (P_1.out.keepAt hg3 (show w.heap.size + 2 ≤ e0 by omega) (by omega))
                    have BR_2 := Lib.hid (BR_1.out.grown hg3 (by intro e; injection e with e; omega))
                    have OC_2 := Lib.hid own3
                    refine hK.out _ _ (fun _ => ⟨P_2.out.x.cell 0, BR_2.out.three⟩) ?_
                    clear hK Kc own3 hg3 at3 hv3 h3_gr h3_ga
                    try simp only [List.getElem_toArray, List.getElem_cons_zero, List.getElem_cons_succ, Act.put, List.setIfInBounds_toArray, List.set_cons_zero, List.set_cons_succ]
                    clear P_1 BR_1 OE_1
                    refine wpAnyN_2 (i := 5) (j := 8) rfl rfl (by kernel_rfl) ?_ ?_
                    · intro Kc hK
                      go_simp
                      have P_3 := Lib.hid (P_2.out.alloc (.cells #[.string .empty, .int .i64 l, .int .i64 r] 72))
                      have BR_3 := Lib.hid (BR_2.out.alloc (.cells #[.string .empty, .int .i64 l, .int .i64 r] 72))
                      have OC_3 := Lib.hid (OC_2.out.alloc (.cells #[.string .empty, .int .i64 l, .int .i64 r] 72))
                      have B5_3 := Lib.hid (Blk.new x2 72 #[.string .empty, .int .i64 l, .int .i64 r])
                      have ng5_gr : gr < x2.heap.size := BR_2.out.lt
                      have ng5_ga : ga < x2.heap.size := (P_2.out.q.lt ga rfl).2
                      have ng5_o3 : o3 < x2.heap.size := (OC_2.out.lt o3 rfl).2
                      have g5_low : w.heap.size + 1 < x2.heap.size := P_2.out.x.lt
                      refine hK.out _ _ (fun _ => ⟨P_3.out.x.cell 0, BR_3.out.three⟩) ?_
                      clear hK Kc
                      try simp only [List.getElem_toArray, List.getElem_cons_zero, List.getElem_cons_succ, Act.put, List.setIfInBounds_toArray, List.set_cons_zero, List.set_cons_succ]
                      generalize x2.heap.size = g5 at *
                      generalize x2.alloc (.cells #[.string .empty, .int .i64 l, .int .i64 r] 72) = x3 at *
                      clear P_2 BR_2 OC_2
                      refine wpAnyN_2 (i := 6) (j := 8) rfl rfl (by kernel_rfl) ?_ ?_
                      · intro Kc hK
                        refine step_pushL (by rfl) _ _ _ (by rfl) w.heap.size 72 3 32 elem_rule Fac.cells (some ⟨o3, 0, none⟩) n c3 rs (by rfl) OC_3.out g5 ⟨⟨#[]⟩, l, r⟩ #[.string .empty, .int .i64 l, .int .i64 r] 72 (0, 0) (by rfl) B5_3.out rfl rfl (one_fac _) (by omega) (by omega) (by unfold maxLen; omega) P_3.out.e.size ?_
                        intro A6 c6 x4 own6 hg6 at6
                        have P_4 := Lib.hid (P_3.out.keepAt hg6 (show w.heap.size + 2 ≤ o3 by omega) (by omega))
                        have BR_4 := Lib.hid (BR_3.out.grown hg6 (by intro e; have e2 : some gr = some o3 := e; injection e2 with e2; omega))
                        have O6_4 := Lib.hid own6
                        refine hK.out _ _ (fun h => absurd h (by decide)) ?_
                        clear hK Kc own6 hg6 at6
                        try simp only [List.getElem_toArray, List.getElem_cons_zero, List.getElem_cons_succ, Act.put, List.setIfInBounds_toArray, List.set_cons_zero, List.set_cons_succ]
                        clear P_3 BR_3 OC_3 B5_3
                        refine wpAnyN_2 (i := 7) (j := 8) rfl rfl (by kernel_rfl) ?_ ?_
                        · intro Kc hK
                          go_simp
                          refine hK.out _ _ (fun h => absurd h (by decide)) ?_
                          clear hK Kc
                          try simp only [List.getElem_toArray, List.getElem_cons_zero, List.getElem_cons_succ, Act.put, List.setIfInBounds_toArray, List.set_cons_zero, List.set_cons_succ]
                          refine wpAnyN_next (i := 8) rfl (by kernel_rfl) (fun Kc hK => ?_)
                          go_simp
                          have P_6 := Lib.hid (P_4.out.alloc (.cells #[.slice none 0 0] 31))
                          have BR_6 := Lib.hid (BR_4.out.alloc (.cells #[.slice none 0 0] 31))
                          have O6_6 := Lib.hid (O6_4.out.alloc (.cells #[.slice none 0 0] 31))
                          have BL_6 := Lib.hid (Blk.new x4 31 #[.slice none 0 0])
                          have ng8_gr : gr < x4.heap.size := BR_4.out.lt
                          have ng8_ga : ga < x4.heap.size := (P_4.out.q.lt ga rfl).2
                          have g8_low : w.heap.size + 1 < x4.heap.size := P_4.out.x.lt
                          refine hK.out _ _ (fun _ => ⟨P_6.out.x.cell 0, BR_6.out.three⟩) ?_
                          clear hK Kc
                          try simp only [List.getElem_toArray, List.getElem_cons_zero, List.getElem_cons_succ, Act.put, List.setIfInBounds_toArray, List.set_cons_zero, List.set_cons_succ]
                          generalize x4.heap.size = g8 at *
                          generalize x4.alloc (.cells #[.slice none 0 0] 31) = x6 at *
                          clear P_4 BR_4 O6_4
                          refine wpAnyN_next (i := 9) rfl (by kernel_rfl) (fun Kc hK => ?_)
                          have b9c := BL_6.out.cell 0
                          have b9f := BL_6.out.frozen
                          have b9l := BL_6.out.lt
                          go_simp
                          have P_7 := Lib.hid (P_6.out.keepAt (gb_set x6 g8 0 (.slice A6 (n + 1) c6)) (show w.heap.size + 2 ≤ g8 by omega) (by omega))
                          have BL_7 := Lib.hid (BL_6.out.set_ 0 (.slice A6 (n + 1) c6))
                          have O6_7 := Lib.hid (own_kept' (i := 0) O6_6.out BL_6.out (by decide) (.slice A6 (n + 1) c6))
                          refine hK.out _ _ (fun h => absurd h (by decide)) ?_
                          clear hK Kc b9c b9f b9l
                          try simp only [List.getElem_toArray, List.getElem_cons_zero, List.getElem_cons_succ, Act.put, List.setIfInBounds_toArray, List.set_cons_zero, List.set_cons_succ]
                          refine wpAnyN_done (by kernel_rfl) ?_ _
                          go_wp2_with fail
                          go_meet
                          exact ⟨g8, A6, c6, rfl, P_7, BL_7, O6_7, Lib.hid g8_low⟩
                        · intro Kc hK
                          go_simp
                          have P_8 := Lib.hid (P_4.out.alloc (.cells #[.slice none 0 0] 31))
                          have BR_8 := Lib.hid (BR_4.out.alloc (.cells #[.slice none 0 0] 31))
                          have O6_8 := Lib.hid (O6_4.out.alloc (.cells #[.slice none 0 0] 31))
                          have BL_8 := Lib.hid (Blk.new x4 31 #[.slice none 0 0])
                          have ng8_gr : gr < x4.heap.size := BR_4.out.lt
                          have ng8_ga : ga < x4.heap.size := (P_4.out.q.lt ga rfl).2
                          have g8_low : w.heap.size + 1 < x4.heap.size := P_4.out.x.lt
                          refine hK.out _ _ (fun _ => ⟨P_8.out.x.cell 0, BR_8.out.three⟩) ?_
                          clear hK Kc
                          try simp only [List.getElem_toArray, List.getElem_cons_zero, List.getElem_cons_succ, Act.put, List.setIfInBounds_toArray, List.set_cons_zero, List.set_cons_succ]
                          generalize x4.heap.size = g8 at *
                          generalize x4.alloc (.cells #[.slice none 0 0] 31) = x8 at *
                          clear P_4 BR_4 O6_4
                          refine wpAnyN_next (i := 7) rfl (by kernel_rfl) (fun Kc hK => ?_)
                          go_simp
                          refine hK.out _ _ (fun h => absurd h (by decide)) ?_
                          clear hK Kc
                          try simp only [List.getElem_toArray, List.getElem_cons_zero, List.getElem_cons_succ, Act.put, List.setIfInBounds_toArray, List.set_cons_zero, List.set_cons_succ]
                          refine wpAnyN_next (i := 9) rfl (by kernel_rfl) (fun Kc hK => ?_)
                          have b9c := BL_8.out.cell 0
                          have b9f := BL_8.out.frozen
                          have b9l := BL_8.out.lt
                          go_simp
                          have P_10 := Lib.hid (P_8.out.keepAt (gb_set x8 g8 0 (.slice A6 (n + 1) c6)) (show w.heap.size + 2 ≤ g8 by omega) (by omega))
                          have BL_10 := Lib.hid (BL_8.out.set_ 0 (.slice A6 (n + 1) c6))
                          have O6_10 := Lib.hid (own_kept' (i := 0) O6_8.out BL_8.out (by decide) (.slice A6 (n + 1) c6))
                          refine hK.out _ _ (fun h => absurd h (by decide)) ?_
                          clear hK Kc b9c b9f b9l
                          try simp only [List.getElem_toArray, List.getElem_cons_zero, List.getElem_cons_succ, Act.put, List.setIfInBounds_toArray, List.set_cons_zero, List.set_cons_succ]
                          refine wpAnyN_done (by kernel_rfl) ?_ _
                          go_wp2_with fail
                          go_meet
                          exact ⟨g8, A6, c6, rfl, P_10, BL_10, O6_10, Lib.hid g8_low⟩
                      · intro Kc hK
                        go_simp
                        have P_11 := Lib.hid (P_3.out.alloc (.cells #[.slice none 0 0] 31))
                        have BR_11 := Lib.hid (BR_3.out.alloc (.cells #[.slice none 0 0] 31))
                        have OC_11 := Lib.hid (OC_3.out.alloc (.cells #[.slice none 0 0] 31))
                        have B5_11 := Lib.hid (B5_3.out.alloc (.cells #[.slice none 0 0] 31))
                        have BL_11 := Lib.hid (Blk.new x3 31 #[.slice none 0 0])
                        have ng8_gr : gr < x3.heap.size := BR_3.out.lt
                        have ng8_ga : ga < x3.heap.size := (P_3.out.q.lt ga rfl).2
                        have ng8_o3 : o3 < x3.heap.size := (OC_3.out.lt o3 rfl).2
                        have ng8_g5 : g5 < x3.heap.size := B5_3.out.lt
                        have g8_low : w.heap.size + 1 < x3.heap.size := P_3.out.x.lt
                        refine hK.out _ _ (fun _ => ⟨P_11.out.x.cell 0, BR_11.out.three⟩) ?_
                        clear hK Kc
                        try simp only [List.getElem_toArray, List.getElem_cons_zero, List.getElem_cons_succ, Act.put, List.setIfInBounds_toArray, List.set_cons_zero, List.set_cons_succ]
                        generalize x3.heap.size = g8 at *
                        generalize x3.alloc (.cells #[.slice none 0 0] 31) = x11 at *
                        clear P_3 BR_3 OC_3 B5_3
                        refine wpAnyN_next (i := 6) rfl (by kernel_rfl) (fun Kc hK => ?_)
                        refine step_pushL (by rfl) _ _ _ (by rfl) w.heap.size 72 3 32 elem_rule Fac.cells (some ⟨o3, 0, none⟩) n c3 rs (by rfl) OC_11.out g5 ⟨⟨#[]⟩, l, r⟩ #[.string .empty, .int .i64 l, .int .i64 r] 72 (0, 0) (by rfl) B5_11.out rfl rfl (one_fac _) (by omega) (by omega) (by unfold maxLen; omega) P_11.out.e.size ?_
                        intro A6 c6 x12 own6 hg6 at6
                        have P_12 := Lib.hid (P_11.out.keepAt hg6 (show w.heap.size + 2 ≤ o3 by omega) (by omega))
                        have BR_12 := Lib.hid (BR_11.out.grown hg6 (by intro e; have e2 : some gr = some o3 := e; injection e2 with e2; omega))
                        have BL_12 := Lib.hid (BL_11.out.grown hg6 (by intro e; have e2 : some g8 = some o3 := e; injection e2 with e2; omega))
                        have O6_12 := Lib.hid own6
                        refine hK.out _ _ (fun h => absurd h (by decide)) ?_
                        clear hK Kc own6 hg6 at6
                        try simp only [List.getElem_toArray, List.getElem_cons_zero, List.getElem_cons_succ, Act.put, List.setIfInBounds_toArray, List.set_cons_zero, List.set_cons_succ]
                        clear P_11 BR_11 OC_11 B5_11 BL_11
                        refine wpAnyN_next (i := 7) rfl (by kernel_rfl) (fun Kc hK => ?_)
                        go_simp
                        refine hK.out _ _ (fun h => absurd h (by decide)) ?_
                        clear hK Kc
                        try simp only [List.getElem_toArray, List.getElem_cons_zero, List.getElem_cons_succ, Act.put, List.setIfInBounds_toArray, List.set_cons_zero, List.set_cons_succ]
                        refine wpAnyN_next (i := 9) rfl (by kernel_rfl) (fun Kc hK => ?_)
                        have b9c := BL_12.out.cell 0
                        have b9f := BL_12.out.frozen
                        have b9l := BL_12.out.lt
                        go_simp
                        have P_14 := Lib.hid (P_12.out.keepAt (gb_set x12 g8 0 (.slice A6 (n + 1) c6)) (show w.heap.size + 2 ≤ g8 by omega) (by omega))
                        have BL_14 := Lib.hid (BL_12.out.set_ 0 (.slice A6 (n + 1) c6))
                        have O6_14 := Lib.hid (own_kept' (i := 0) O6_12.out BL_12.out (by decide) (.slice A6 (n + 1) c6))
                        refine hK.out _ _ (fun h => absurd h (by decide)) ?_
                        clear hK Kc b9c b9f b9l
                        try simp only [List.getElem_toArray, List.getElem_cons_zero, List.getElem_cons_succ, Act.put, List.setIfInBounds_toArray, List.set_cons_zero, List.set_cons_succ]
                        refine wpAnyN_done (by kernel_rfl) ?_ _
                        go_wp2_with fail
                        go_meet
                        exact ⟨g8, A6, c6, rfl, P_14, BL_14, O6_14, Lib.hid g8_low⟩
                    · intro Kc hK
                      go_simp
                      have P_15 := Lib.hid (P_2.out.alloc (.cells #[.slice none 0 0] 31))
                      have BR_15 := Lib.hid (BR_2.out.alloc (.cells #[.slice none 0 0] 31))
                      have OC_15 := Lib.hid (OC_2.out.alloc (.cells #[.slice none 0 0] 31))
                      have BL_15 := Lib.hid (Blk.new x2 31 #[.slice none 0 0])
                      have ng8_gr : gr < x2.heap.size := BR_2.out.lt
                      have ng8_ga : ga < x2.heap.size := (P_2.out.q.lt ga rfl).2
                      have ng8_o3 : o3 < x2.heap.size := (OC_2.out.lt o3 rfl).2
                      have g8_low : w.heap.size + 1 < x2.heap.size := P_2.out.x.lt
                      refine hK.out _ _ (fun _ => ⟨P_15.out.x.cell 0, BR_15.out.three⟩) ?_
                      clear hK Kc
                      try simp only [List.getElem_toArray, List.getElem_cons_zero, List.getElem_cons_succ, Act.put, List.setIfInBounds_toArray, List.set_cons_zero, List.set_cons_succ]
                      generalize x2.heap.size = g8 at *
                      generalize x2.alloc (.cells #[.slice none 0 0] 31) = x15 at *
                      clear P_2 BR_2 OC_2
                      refine wpAnyN_next (i := 5) rfl (by kernel_rfl) (fun Kc hK => ?_)
                      go_simp
                      have P_16 := Lib.hid (P_15.out.alloc (.cells #[.string .empty, .int .i64 l, .int .i64 r] 72))
                      have BR_16 := Lib.hid (BR_15.out.alloc (.cells #[.string .empty, .int .i64 l, .int .i64 r] 72))
                      have OC_16 := Lib.hid (OC_15.out.alloc (.cells #[.string .empty, .int .i64 l, .int .i64 r] 72))
                      have BL_16 := Lib.hid (BL_15.out.alloc (.cells #[.string .empty, .int .i64 l, .int .i64 r] 72))
                      have B5_16 := Lib.hid (Blk.new x15 72 #[.string .empty, .int .i64 l, .int .i64 r])
                      have ng5_gr : gr < x15.heap.size := BR_15.out.lt
                      have ng5_ga : ga < x15.heap.size := (P_15.out.q.lt ga rfl).2
                      have ng5_o3 : o3 < x15.heap.size := (OC_15.out.lt o3 rfl).2
                      have ng5_g8 : g8 < x15.heap.size := BL_15.out.lt
                      have g5_low : w.heap.size + 1 < x15.heap.size := P_15.out.x.lt
                      refine hK.out _ _ (fun _ => ⟨P_16.out.x.cell 0, BR_16.out.three⟩) ?_
                      clear hK Kc
                      try simp only [List.getElem_toArray, List.getElem_cons_zero, List.getElem_cons_succ, Act.put, List.setIfInBounds_toArray, List.set_cons_zero, List.set_cons_succ]
                      generalize x15.heap.size = g5 at *
                      generalize x15.alloc (.cells #[.string .empty, .int .i64 l, .int .i64 r] 72) = x16 at *
                      clear P_15 BR_15 OC_15 BL_15
                      refine wpAnyN_next (i := 6) rfl (by kernel_rfl) (fun Kc hK => ?_)
                      refine step_pushL (by rfl) _ _ _ (by rfl) w.heap.size 72 3 32 elem_rule Fac.cells (some ⟨o3, 0, none⟩) n c3 rs (by rfl) OC_16.out g5 ⟨⟨#[]⟩, l, r⟩ #[.string .empty, .int .i64 l, .int .i64 r] 72 (0, 0) (by rfl) B5_16.out rfl rfl (one_fac _) (by omega) (by omega) (by unfold maxLen; omega) P_16.out.e.size ?_
                      intro A6 c6 x17 own6 hg6 at6
                      have P_17 := Lib.hid (P_16.out.keepAt hg6 (show w.heap.size + 2 ≤ o3 by omega) (by omega))
                      have BR_17 := Lib.hid (BR_16.out.grown hg6 (by intro e; have e2 : some gr = some o3 := e; injection e2 with e2; omega))
                      have BL_17 := Lib.hid (BL_16.out.grown hg6 (by intro e; have e2 : some g8 = some o3 := e; injection e2 with e2; omega))
                      have O6_17 := Lib.hid own6
                      refine hK.out _ _ (fun h => absurd h (by decide)) ?_
                      clear hK Kc own6 hg6 at6
                      try simp only [List.getElem_toArray, List.getElem_cons_zero, List.getElem_cons_succ, Act.put, List.setIfInBounds_toArray, List.set_cons_zero, List.set_cons_succ]
                      clear P_16 BR_16 OC_16 B5_16 BL_16
                      refine wpAnyN_next (i := 7) rfl (by kernel_rfl) (fun Kc hK => ?_)
                      go_simp
                      refine hK.out _ _ (fun h => absurd h (by decide)) ?_
                      clear hK Kc
                      try simp only [List.getElem_toArray, List.getElem_cons_zero, List.getElem_cons_succ, Act.put, List.setIfInBounds_toArray, List.set_cons_zero, List.set_cons_succ]
                      refine wpAnyN_next (i := 9) rfl (by kernel_rfl) (fun Kc hK => ?_)
                      have b9c := BL_17.out.cell 0
                      have b9f := BL_17.out.frozen
                      have b9l := BL_17.out.lt
                      go_simp
                      have P_19 := Lib.hid (P_17.out.keepAt (gb_set x17 g8 0 (.slice A6 (n + 1) c6)) (show w.heap.size + 2 ≤ g8 by omega) (by omega))
                      have BL_19 := Lib.hid (BL_17.out.set_ 0 (.slice A6 (n + 1) c6))
                      have O6_19 := Lib.hid (own_kept' (i := 0) O6_17.out BL_17.out (by decide) (.slice A6 (n + 1) c6))
                      refine hK.out _ _ (fun h => absurd h (by decide)) ?_
                      clear hK Kc b9c b9f b9l
                      try simp only [List.getElem_toArray, List.getElem_cons_zero, List.getElem_cons_succ, Act.put, List.setIfInBounds_toArray, List.set_cons_zero, List.set_cons_succ]
                      refine wpAnyN_done (by kernel_rfl) ?_ _
                      go_wp2_with fail
                      go_meet
                      exact ⟨g8, A6, c6, rfl, P_19, BL_19, O6_19, Lib.hid g8_low⟩
                  · intro Kc hK
                    go_simp
                    have P_20 := Lib.hid (P_1.out.alloc (.cells #[.string .empty, .int .i64 l, .int .i64 r] 72))
                    have BR_20 := Lib.hid (BR_1.out.alloc (.cells #[.string .empty, .int .i64 l, .int .i64 r] 72))
                    have OE_20 := Lib.hid (OE_1.out.alloc (.cells #[.string .empty, .int .i64 l, .int .i64 r] 72))
                    have B5_20 := Lib.hid (Blk.new x1 72 #[.string .empty, .int .i64 l, .int .i64 r])
                    have ng5_gr : gr < x1.heap.size := BR_1.out.lt
                    have ng5_ga : ga < x1.heap.size := (P_1.out.q.lt ga rfl).2
                    have ng5_e0 : e0 < x1.heap.size := (OE_1.out.lt e0 rfl).2
                    have g5_low : w.heap.size + 1 < x1.heap.size := P_1.out.x.lt
                    refine hK.out _ _ (fun _ => ⟨P_20.out.x.cell 0, BR_20.out.three⟩) ?_
                    clear hK Kc
                    try simp only [List.getElem_toArray, List.getElem_cons_zero, List.getElem_cons_succ, Act.put, List.setIfInBounds_toArray, List.set_cons_zero, List.set_cons_succ]
                    generalize x1.heap.size = g5 at *
                    generalize x1.alloc (.cells #[.string .empty, .int .i64 l, .int .i64 r] 72) = x20 at *
                    clear P_1 BR_1 OE_1
                    refine wpAnyN_2 (i := 3) (j := 8) rfl rfl (by kernel_rfl) ?_ ?_
                    · intro Kc hK
                      refine step_copyL (by rfl) _ _ _ (by rfl) w.heap.size 72 3 32 elem_rule Fac.cells e0 (by rfl) OE_20.out ⟨ga, 0, none⟩ n c rs (by rfl) HLn.out hn0 (Hnews.out _ P_20.out) (fun x _ => fac_len x) (fun x _ => one_fac x) (by omega) (by omega) (by unfold maxLen; omega) P_20.out.e.size ?_
                      intro A3 c3 x21 own3 hg3 at3
                      obtain ⟨o3, cap3, hv3, _, _⟩ := own3.form hn0
                      obtain rfl : A3 = some ⟨o3, 0, none⟩ := by injection hv3
                      have h3_gr : gr < x20.heap.size := BR_20.out.lt
                      have h3_ga : ga < x20.heap.size := (P_20.out.q.lt ga rfl).2
                      have h3_g5 : g5 < x20.heap.size := B5_20.out.lt
                      have at3 : o3 = e0 ∨ o3 = x20.heap.size := at3.imp (fun h => Option.some.inj h) (fun h => Option.some.inj h)
                      have o3_low : w.heap.size + 1 < o3 := by have h := P_20.out.x.lt; rcases at3 with h3 | h3 <;> omega
                      have o3_gr : gr ≠ o3 := by rcases at3 with h3 | h3 <;> omega
                      have o3_ga : ga ≠ o3 := by rcases at3 with h3 | h3 <;> omega
                      have o3_g5 : g5 ≠ o3 := by rcases at3 with h3 | h3 <;> omega
                      have P_21 := Lib.hid (P_20.out.keepAt hg3 (show w.heap.size + 2 ≤ e0 by omega) (by omega))
                      have BR_21 := Lib.hid (BR_20.out.grown hg3 (by intro e; injection e with e; omega))
                      have B5_21 := Lib.hid (B5_20.out.grown hg3 (by intro e; injection e with e; omega))
                      have OC_21 := Lib.hid own3
                      refine hK.out _ _ (fun _ => ⟨P_21.out.x.cell 0, BR_21.out.three⟩) ?_
                      clear hK Kc own3 hg3 at3 hv3 h3_gr h3_ga h3_g5
                      try simp only [List.getElem_toArray, List.getElem_cons_zero, List.getElem_cons_succ, Act.put, List.setIfInBounds_toArray, List.set_cons_zero, List.set_cons_succ]
                      clear P_20 BR_20 OE_20 B5_20
                      refine wpAnyN_2 (i := 6) (j := 8) rfl rfl (by kernel_rfl) ?_ ?_
                      · intro Kc hK
                        refine step_pushL (by rfl) _ _ _ (by rfl) w.heap.size 72 3 32 elem_rule Fac.cells (some ⟨o3, 0, none⟩) n c3 rs (by rfl) OC_21.out g5 ⟨⟨#[]⟩, l, r⟩ #[.string .empty, .int .i64 l, .int .i64 r] 72 (0, 0) (by rfl) B5_21.out rfl rfl (one_fac _) (by omega) (by omega) (by unfold maxLen; omega) P_21.out.e.size ?_
                        intro A6 c6 x22 own6 hg6 at6
                        have P_22 := Lib.hid (P_21.out.keepAt hg6 (show w.heap.size + 2 ≤ o3 by omega) (by omega))
                        have BR_22 := Lib.hid (BR_21.out.grown hg6 (by intro e; have e2 : some gr = some o3 := e; injection e2 with e2; omega))
                        have O6_22 := Lib.hid own6
                        refine hK.out _ _ (fun h => absurd h (by decide)) ?_
                        clear hK Kc own6 hg6 at6
                        try simp only [List.getElem_toArray, List.getElem_cons_zero, List.getElem_cons_succ, Act.put, List.setIfInBounds_toArray, List.set_cons_zero, List.set_cons_succ]
                        clear P_21 BR_21 OC_21 B5_21
                        refine wpAnyN_2 (i := 7) (j := 8) rfl rfl (by kernel_rfl) ?_ ?_
                        · intro Kc hK
                          go_simp
                          refine hK.out _ _ (fun h => absurd h (by decide)) ?_
                          clear hK Kc
                          try simp only [List.getElem_toArray, List.getElem_cons_zero, List.getElem_cons_succ, Act.put, List.setIfInBounds_toArray, List.set_cons_zero, List.set_cons_succ]
                          refine wpAnyN_next (i := 8) rfl (by kernel_rfl) (fun Kc hK => ?_)
                          go_simp
                          have P_24 := Lib.hid (P_22.out.alloc (.cells #[.slice none 0 0] 31))
                          have BR_24 := Lib.hid (BR_22.out.alloc (.cells #[.slice none 0 0] 31))
                          have O6_24 := Lib.hid (O6_22.out.alloc (.cells #[.slice none 0 0] 31))
                          have BL_24 := Lib.hid (Blk.new x22 31 #[.slice none 0 0])
                          have ng8_gr : gr < x22.heap.size := BR_22.out.lt
                          have ng8_ga : ga < x22.heap.size := (P_22.out.q.lt ga rfl).2
                          have g8_low : w.heap.size + 1 < x22.heap.size := P_22.out.x.lt
                          refine hK.out _ _ (fun _ => ⟨P_24.out.x.cell 0, BR_24.out.three⟩) ?_
                          clear hK Kc
                          try simp only [List.getElem_toArray, List.getElem_cons_zero, List.getElem_cons_succ, Act.put, List.setIfInBounds_toArray, List.set_cons_zero, List.set_cons_succ]
                          generalize x22.heap.size = g8 at *
                          generalize x22.alloc (.cells #[.slice none 0 0] 31) = x24 at *
                          clear P_22 BR_22 O6_22
                          refine wpAnyN_next (i := 9) rfl (by kernel_rfl) (fun Kc hK => ?_)
                          have b9c := BL_24.out.cell 0
                          have b9f := BL_24.out.frozen
                          have b9l := BL_24.out.lt
                          go_simp
                          have P_25 := Lib.hid (P_24.out.keepAt (gb_set x24 g8 0 (.slice A6 (n + 1) c6)) (show w.heap.size + 2 ≤ g8 by omega) (by omega))
                          have BL_25 := Lib.hid (BL_24.out.set_ 0 (.slice A6 (n + 1) c6))
                          have O6_25 := Lib.hid (own_kept' (i := 0) O6_24.out BL_24.out (by decide) (.slice A6 (n + 1) c6))
                          refine hK.out _ _ (fun h => absurd h (by decide)) ?_
                          clear hK Kc b9c b9f b9l
                          try simp only [List.getElem_toArray, List.getElem_cons_zero, List.getElem_cons_succ, Act.put, List.setIfInBounds_toArray, List.set_cons_zero, List.set_cons_succ]
                          refine wpAnyN_done (by kernel_rfl) ?_ _
                          go_wp2_with fail
                          go_meet
                          exact ⟨g8, A6, c6, rfl, P_25, BL_25, O6_25, Lib.hid g8_low⟩
                        · intro Kc hK
                          go_simp
                          have P_26 := Lib.hid (P_22.out.alloc (.cells #[.slice none 0 0] 31))
                          have BR_26 := Lib.hid (BR_22.out.alloc (.cells #[.slice none 0 0] 31))
                          have O6_26 := Lib.hid (O6_22.out.alloc (.cells #[.slice none 0 0] 31))
                          have BL_26 := Lib.hid (Blk.new x22 31 #[.slice none 0 0])
                          have ng8_gr : gr < x22.heap.size := BR_22.out.lt
                          have ng8_ga : ga < x22.heap.size := (P_22.out.q.lt ga rfl).2
                          have g8_low : w.heap.size + 1 < x22.heap.size := P_22.out.x.lt
                          refine hK.out _ _ (fun _ => ⟨P_26.out.x.cell 0, BR_26.out.three⟩) ?_
                          clear hK Kc
                          try simp only [List.getElem_toArray, List.getElem_cons_zero, List.getElem_cons_succ, Act.put, List.setIfInBounds_toArray, List.set_cons_zero, List.set_cons_succ]
                          generalize x22.heap.size = g8 at *
                          generalize x22.alloc (.cells #[.slice none 0 0] 31) = x26 at *
                          clear P_22 BR_22 O6_22
                          refine wpAnyN_next (i := 7) rfl (by kernel_rfl) (fun Kc hK => ?_)
                          go_simp
                          refine hK.out _ _ (fun h => absurd h (by decide)) ?_
                          clear hK Kc
                          try simp only [List.getElem_toArray, List.getElem_cons_zero, List.getElem_cons_succ, Act.put, List.setIfInBounds_toArray, List.set_cons_zero, List.set_cons_succ]
                          refine wpAnyN_next (i := 9) rfl (by kernel_rfl) (fun Kc hK => ?_)
                          have b9c := BL_26.out.cell 0
                          have b9f := BL_26.out.frozen
                          have b9l := BL_26.out.lt
                          go_simp
                          have P_28 := Lib.hid (P_26.out.keepAt (gb_set x26 g8 0 (.slice A6 (n + 1) c6)) (show w.heap.size + 2 ≤ g8 by omega) (by omega))
                          have BL_28 := Lib.hid (BL_26.out.set_ 0 (.slice A6 (n + 1) c6))
                          have O6_28 := Lib.hid (own_kept' (i := 0) O6_26.out BL_26.out (by decide) (.slice A6 (n + 1) c6))
                          refine hK.out _ _ (fun h => absurd h (by decide)) ?_
                          clear hK Kc b9c b9f b9l
                          try simp only [List.getElem_toArray, List.getElem_cons_zero, List.getElem_cons_succ, Act.put, List.setIfInBounds_toArray, List.set_cons_zero, List.set_cons_succ]
                          refine wpAnyN_done (by kernel_rfl) ?_ _
                          go_wp2_with fail
                          go_meet
                          exact ⟨g8, A6, c6, rfl, P_28, BL_28, O6_28, Lib.hid g8_low⟩
                      · intro Kc hK
                        go_simp
                        have P_29 := Lib.hid (P_21.out.alloc (.cells #[.slice none 0 0] 31))
                        have BR_29 := Lib.hid (BR_21.out.alloc (.cells #[.slice none 0 0] 31))
                        have OC_29 := Lib.hid (OC_21.out.alloc (.cells #[.slice none 0 0] 31))
                        have B5_29 := Lib.hid (B5_21.out.alloc (.cells #[.slice none 0 0] 31))
                        have BL_29 := Lib.hid (Blk.new x21 31 #[.slice none 0 0])
                        have ng8_gr : gr < x21.heap.size := BR_21.out.lt
                        have ng8_ga : ga < x21.heap.size := (P_21.out.q.lt ga rfl).2
                        have ng8_o3 : o3 < x21.heap.size := (OC_21.out.lt o3 rfl).2
                        have ng8_g5 : g5 < x21.heap.size := B5_21.out.lt
                        have g8_low : w.heap.size + 1 < x21.heap.size := P_21.out.x.lt
                        refine hK.out _ _ (fun _ => ⟨P_29.out.x.cell 0, BR_29.out.three⟩) ?_
                        clear hK Kc
                        try simp only [List.getElem_toArray, List.getElem_cons_zero, List.getElem_cons_succ, Act.put, List.setIfInBounds_toArray, List.set_cons_zero, List.set_cons_succ]
                        generalize x21.heap.size = g8 at *
                        generalize x21.alloc (.cells #[.slice none 0 0] 31) = x29 at *
                        clear P_21 BR_21 OC_21 B5_21
                        refine wpAnyN_next (i := 6) rfl (by kernel_rfl) (fun Kc hK => ?_)
                        refine step_pushL (by rfl) _ _ _ (by rfl) w.heap.size 72 3 32 elem_rule Fac.cells (some ⟨o3, 0, none⟩) n c3 rs (by rfl) OC_29.out g5 ⟨⟨#[]⟩, l, r⟩ #[.string .empty, .int .i64 l, .int .i64 r] 72 (0, 0) (by rfl) B5_29.out rfl rfl (one_fac _) (by omega) (by omega) (by unfold maxLen; omega) P_29.out.e.size ?_
                        intro A6 c6 x30 own6 hg6 at6
                        have P_30 := Lib.hid (P_29.out.keepAt hg6 (show w.heap.size + 2 ≤ o3 by omega) (by omega))
                        have BR_30 := Lib.hid (BR_29.out.grown hg6 (by intro e; have e2 : some gr = some o3 := e; injection e2 with e2; omega))
                        have BL_30 := Lib.hid (BL_29.out.grown hg6 (by intro e; have e2 : some g8 = some o3 := e; injection e2 with e2; omega))
                        have O6_30 := Lib.hid own6
                        refine hK.out _ _ (fun h => absurd h (by decide)) ?_
                        clear hK Kc own6 hg6 at6
                        try simp only [List.getElem_toArray, List.getElem_cons_zero, List.getElem_cons_succ, Act.put, List.setIfInBounds_toArray, List.set_cons_zero, List.set_cons_succ]
                        clear P_29 BR_29 OC_29 B5_29 BL_29
                        refine wpAnyN_next (i := 7) rfl (by kernel_rfl) (fun Kc hK => ?_)
                        go_simp
                        refine hK.out _ _ (fun h => absurd h (by decide)) ?_
                        clear hK Kc
                        try simp only [List.getElem_toArray, List.getElem_cons_zero, List.getElem_cons_succ, Act.put, List.setIfInBounds_toArray, List.set_cons_zero, List.set_cons_succ]
                        refine wpAnyN_next (i := 9) rfl (by kernel_rfl) (fun Kc hK => ?_)
                        have b9c := BL_30.out.cell 0
                        have b9f := BL_30.out.frozen
                        have b9l := BL_30.out.lt
                        go_simp
                        have P_32 := Lib.hid (P_30.out.keepAt (gb_set x30 g8 0 (.slice A6 (n + 1) c6)) (show w.heap.size + 2 ≤ g8 by omega) (by omega))
                        have BL_32 := Lib.hid (BL_30.out.set_ 0 (.slice A6 (n + 1) c6))
                        have O6_32 := Lib.hid (own_kept' (i := 0) O6_30.out BL_30.out (by decide) (.slice A6 (n + 1) c6))
                        refine hK.out _ _ (fun h => absurd h (by decide)) ?_
                        clear hK Kc b9c b9f b9l
                        try simp only [List.getElem_toArray, List.getElem_cons_zero, List.getElem_cons_succ, Act.put, List.setIfInBounds_toArray, List.set_cons_zero, List.set_cons_succ]
                        refine wpAnyN_done (by kernel_rfl) ?_ _
                        go_wp2_with fail
                        go_meet
                        exact ⟨g8, A6, c6, rfl, P_32, BL_32, O6_32, Lib.hid g8_low⟩
                    · intro Kc hK
                      go_simp
                      have P_33 := Lib.hid (P_20.out.alloc (.cells #[.slice none 0 0] 31))
                      have BR_33 := Lib.hid (BR_20.out.alloc (.cells #[.slice none 0 0] 31))
                      have OE_33 := Lib.hid (OE_20.out.alloc (.cells #[.slice none 0 0] 31))
                      have B5_33 := Lib.hid (B5_20.out.alloc (.cells #[.slice none 0 0] 31))
                      have BL_33 := Lib.hid (Blk.new x20 31 #[.slice none 0 0])
                      have ng8_gr : gr < x20.heap.size := BR_20.out.lt
                      have ng8_ga : ga < x20.heap.size := (P_20.out.q.lt ga rfl).2
                      have ng8_e0 : e0 < x20.heap.size := (OE_20.out.lt e0 rfl).2
                      have ng8_g5 : g5 < x20.heap.size := B5_20.out.lt
                      have g8_low : w.heap.size + 1 < x20.heap.size := P_20.out.x.lt
                      refine hK.out _ _ (fun _ => ⟨P_33.out.x.cell 0, BR_33.out.three⟩) ?_
                      clear hK Kc
                      try simp only [List.getElem_toArray, List.getElem_cons_zero, List.getElem_cons_succ, Act.put, List.setIfInBounds_toArray, List.set_cons_zero, List.set_cons_succ]
                      generalize x20.heap.size = g8 at *
                      generalize x20.alloc (.cells #[.slice none 0 0] 31) = x33 at *
                      clear P_20 BR_20 OE_20 B5_20
                      refine wpAnyN_next (i := 3) rfl (by kernel_rfl) (fun Kc hK => ?_)
                      refine step_copyL (by rfl) _ _ _ (by rfl) w.heap.size 72 3 32 elem_rule Fac.cells e0 (by rfl) OE_33.out ⟨ga, 0, none⟩ n c rs (by rfl) HLn.out hn0 (Hnews.out _ P_33.out) (fun x _ => fac_len x) (fun x _ => one_fac x) (by omega) (by omega) (by unfold maxLen; omega) P_33.out.e.size ?_
                      intro A3 c3 x34 own3 hg3 at3
                      obtain ⟨o3, cap3, hv3, _, _⟩ := own3.form hn0
                      obtain rfl : A3 = some ⟨o3, 0, none⟩ := by injection hv3
                      have h3_gr : gr < x33.heap.size := BR_33.out.lt
                      have h3_ga : ga < x33.heap.size := (P_33.out.q.lt ga rfl).2
                      have h3_g5 : g5 < x33.heap.size := B5_33.out.lt
                      have h3_g8 : g8 < x33.heap.size := BL_33.out.lt
                      have at3 : o3 = e0 ∨ o3 = x33.heap.size := at3.imp (fun h => Option.some.inj h) (fun h => Option.some.inj h)
                      have o3_low : w.heap.size + 1 < o3 := by have h := P_33.out.x.lt; rcases at3 with h3 | h3 <;> omega
                      have o3_gr : gr ≠ o3 := by rcases at3 with h3 | h3 <;> omega
                      have o3_ga : ga ≠ o3 := by rcases at3 with h3 | h3 <;> omega
                      have o3_g5 : g5 ≠ o3 := by rcases at3 with h3 | h3 <;> omega
                      have o3_g8 : g8 ≠ o3 := by rcases at3 with h3 | h3 <;> omega
                      have P_34 := Lib.hid (P_33.out.keepAt hg3 (show w.heap.size + 2 ≤ e0 by omega) (by omega))
                      have BR_34 := Lib.hid (BR_33.out.grown hg3 (by intro e; injection e with e; omega))
                      have B5_34 := Lib.hid (B5_33.out.grown hg3 (by intro e; injection e with e; omega))
                      have BL_34 := Lib.hid (BL_33.out.grown hg3 (by intro e; injection e with e; omega))
                      have OC_34 := Lib.hid own3
                      refine hK.out _ _ (fun _ => ⟨P_34.out.x.cell 0, BR_34.out.three⟩) ?_
                      clear hK Kc own3 hg3 at3 hv3 h3_gr h3_ga h3_g5 h3_g8
                      try simp only [List.getElem_toArray, List.getElem_cons_zero, List.getElem_cons_succ, Act.put, List.setIfInBounds_toArray, List.set_cons_zero, List.set_cons_succ]
                      clear P_33 BR_33 OE_33 B5_33 BL_33
                      refine wpAnyN_next (i := 6) rfl (by kernel_rfl) (fun Kc hK => ?_)
                      refine step_pushL (by rfl) _ _ _ (by rfl) w.heap.size 72 3 32 elem_rule Fac.cells (some ⟨o3, 0, none⟩) n c3 rs (by rfl) OC_34.out g5 ⟨⟨#[]⟩, l, r⟩ #[.string .empty, .int .i64 l, .int .i64 r] 72 (0, 0) (by rfl) B5_34.out rfl rfl (one_fac _) (by omega) (by omega) (by unfold maxLen; omega) P_34.out.e.size ?_
                      intro A6 c6 x35 own6 hg6 at6
                      have P_35 := Lib.hid (P_34.out.keepAt hg6 (show w.heap.size + 2 ≤ o3 by omega) (by omega))
                      have BR_35 := Lib.hid (BR_34.out.grown hg6 (by intro e; have e2 : some gr = some o3 := e; injection e2 with e2; omega))
                      have BL_35 := Lib.hid (BL_34.out.grown hg6 (by intro e; have e2 : some g8 = some o3 := e; injection e2 with e2; omega))
                      have O6_35 := Lib.hid own6
                      refine hK.out _ _ (fun h => absurd h (by decide)) ?_
                      clear hK Kc own6 hg6 at6
                      try simp only [List.getElem_toArray, List.getElem_cons_zero, List.getElem_cons_succ, Act.put, List.setIfInBounds_toArray, List.set_cons_zero, List.set_cons_succ]
                      clear P_34 BR_34 OC_34 B5_34 BL_34
                      refine wpAnyN_next (i := 7) rfl (by kernel_rfl) (fun Kc hK => ?_)
                      go_simp
                      refine hK.out _ _ (fun h => absurd h (by decide)) ?_
                      clear hK Kc
                      try simp only [List.getElem_toArray, List.getElem_cons_zero, List.getElem_cons_succ, Act.put, List.setIfInBounds_toArray, List.set_cons_zero, List.set_cons_succ]
                      refine wpAnyN_next (i := 9) rfl (by kernel_rfl) (fun Kc hK => ?_)
                      have b9c := BL_35.out.cell 0
                      have b9f := BL_35.out.frozen
                      have b9l := BL_35.out.lt
                      go_simp
                      have P_37 := Lib.hid (P_35.out.keepAt (gb_set x35 g8 0 (.slice A6 (n + 1) c6)) (show w.heap.size + 2 ≤ g8 by omega) (by omega))
                      have BL_37 := Lib.hid (BL_35.out.set_ 0 (.slice A6 (n + 1) c6))
                      have O6_37 := Lib.hid (own_kept' (i := 0) O6_35.out BL_35.out (by decide) (.slice A6 (n + 1) c6))
                      refine hK.out _ _ (fun h => absurd h (by decide)) ?_
                      clear hK Kc b9c b9f b9l
                      try simp only [List.getElem_toArray, List.getElem_cons_zero, List.getElem_cons_succ, Act.put, List.setIfInBounds_toArray, List.set_cons_zero, List.set_cons_succ]
                      refine wpAnyN_done (by kernel_rfl) ?_ _
                      go_wp2_with fail
                      go_meet
                      exact ⟨g8, A6, c6, rfl, P_37, BL_37, O6_37, Lib.hid g8_low⟩
                  · intro Kc hK
                    go_simp
                    have P_38 := Lib.hid (P_1.out.alloc (.cells #[.slice none 0 0] 31))
                    have BR_38 := Lib.hid (BR_1.out.alloc (.cells #[.slice none 0 0] 31))
                    have OE_38 := Lib.hid (OE_1.out.alloc (.cells #[.slice none 0 0] 31))
                    have BL_38 := Lib.hid (Blk.new x1 31 #[.slice none 0 0])
                    have ng8_gr : gr < x1.heap.size := BR_1.out.lt
                    have ng8_ga : ga < x1.heap.size := (P_1.out.q.lt ga rfl).2
                    have ng8_e0 : e0 < x1.heap.size := (OE_1.out.lt e0 rfl).2
                    have g8_low : w.heap.size + 1 < x1.heap.size := P_1.out.x.lt
                    refine hK.out _ _ (fun _ => ⟨P_38.out.x.cell 0, BR_38.out.three⟩) ?_
                    clear hK Kc
                    try simp only [List.getElem_toArray, List.getElem_cons_zero, List.getElem_cons_succ, Act.put, List.setIfInBounds_toArray, List.set_cons_zero, List.set_cons_succ]
                    generalize x1.heap.size = g8 at *
                    generalize x1.alloc (.cells #[.slice none 0 0] 31) = x38 at *
                    clear P_1 BR_1 OE_1
                    refine wpAnyN_2 (i := 3) (j := 5) rfl rfl (by kernel_rfl) ?_ ?_
                    · intro Kc hK
                      refine step_copyL (by rfl) _ _ _ (by rfl) w.heap.size 72 3 32 elem_rule Fac.cells e0 (by rfl) OE_38.out ⟨ga, 0, none⟩ n c rs (by rfl) HLn.out hn0 (Hnews.out _ P_38.out) (fun x _ => fac_len x) (fun x _ => one_fac x) (by omega) (by omega) (by unfold maxLen; omega) P_38.out.e.size ?_
                      intro A3 c3 x39 own3 hg3 at3
                      obtain ⟨o3, cap3, hv3, _, _⟩ := own3.form hn0
                      obtain rfl : A3 = some ⟨o3, 0, none⟩ := by injection hv3
                      have h3_gr : gr < x38.heap.size := BR_38.out.lt
                      have h3_ga : ga < x38.heap.size := (P_38.out.q.lt ga rfl).2
                      have h3_g8 : g8 < x38.heap.size := BL_38.out.lt
                      have at3 : o3 = e0 ∨ o3 = x38.heap.size := at3.imp (fun h => Option.some.inj h) (fun h => Option.some.inj h)
                      have o3_low : w.heap.size + 1 < o3 := by have h := P_38.out.x.lt; rcases at3 with h3 | h3 <;> omega
                      have o3_gr : gr ≠ o3 := by rcases at3 with h3 | h3 <;> omega
                      have o3_ga : ga ≠ o3 := by rcases at3 with h3 | h3 <;> omega
                      have o3_g8 : g8 ≠ o3 := by rcases at3 with h3 | h3 <;> omega
                      have P_39 := Lib.hid (P_38.out.keepAt hg3 (show w.heap.size + 2 ≤ e0 by omega) (by omega))
                      have BR_39 := Lib.hid (BR_38.out.grown hg3 (by intro e; injection e with e; omega))
                      have BL_39 := Lib.hid (BL_38.out.grown hg3 (by intro e; injection e with e; omega))
                      have OC_39 := Lib.hid own3
                      refine hK.out _ _ (fun _ => ⟨P_39.out.x.cell 0, BR_39.out.three⟩) ?_
                      clear hK Kc own3 hg3 at3 hv3 h3_gr h3_ga h3_g8
                      try simp only [List.getElem_toArray, List.getElem_cons_zero, List.getElem_cons_succ, Act.put, List.setIfInBounds_toArray, List.set_cons_zero, List.set_cons_succ]
                      clear P_38 BR_38 OE_38 BL_38
                      refine wpAnyN_next (i := 5) rfl (by kernel_rfl) (fun Kc hK => ?_)
                      go_simp
                      have P_40 := Lib.hid (P_39.out.alloc (.cells #[.string .empty, .int .i64 l, .int .i64 r] 72))
                      have BR_40 := Lib.hid (BR_39.out.alloc (.cells #[.string .empty, .int .i64 l, .int .i64 r] 72))
                      have OC_40 := Lib.hid (OC_39.out.alloc (.cells #[.string .empty, .int .i64 l, .int .i64 r] 72))
                      have BL_40 := Lib.hid (BL_39.out.alloc (.cells #[.string .empty, .int .i64 l, .int .i64 r] 72))
                      have B5_40 := Lib.hid (Blk.new x39 72 #[.string .empty, .int .i64 l, .int .i64 r])
                      have ng5_gr : gr < x39.heap.size := BR_39.out.lt
                      have ng5_ga : ga < x39.heap.size := (P_39.out.q.lt ga rfl).2
                      have ng5_o3 : o3 < x39.heap.size := (OC_39.out.lt o3 rfl).2
                      have ng5_g8 : g8 < x39.heap.size := BL_39.out.lt
                      have g5_low : w.heap.size + 1 < x39.heap.size := P_39.out.x.lt
                      refine hK.out _ _ (fun _ => ⟨P_40.out.x.cell 0, BR_40.out.three⟩) ?_
                      clear hK Kc
                      try simp only [List.getElem_toArray, List.getElem_cons_zero, List.getElem_cons_succ, Act.put, List.setIfInBounds_toArray, List.set_cons_zero, List.set_cons_succ]
                      generalize x39.heap.size = g5 at *
                      generalize x39.alloc (.cells #[.string .empty, .int .i64 l, .int .i64 r] 72) = x40 at *
                      clear P_39 BR_39 OC_39 BL_39
                      refine wpAnyN_next (i := 6) rfl (by kernel_rfl) (fun Kc hK => ?_)
                      refine step_pushL (by rfl) _ _ _ (by rfl) w.heap.size 72 3 32 elem_rule Fac.cells (some ⟨o3, 0, none⟩) n c3 rs (by rfl) OC_40.out g5 ⟨⟨#[]⟩, l, r⟩ #[.string .empty, .int .i64 l, .int .i64 r] 72 (0, 0) (by rfl) B5_40.out rfl rfl (one_fac _) (by omega) (by omega) (by unfold maxLen; omega) P_40.out.e.size ?_
                      intro A6 c6 x41 own6 hg6 at6
                      have P_41 := Lib.hid (P_40.out.keepAt hg6 (show w.heap.size + 2 ≤ o3 by omega) (by omega))
                      have BR_41 := Lib.hid (BR_40.out.grown hg6 (by intro e; have e2 : some gr = some o3 := e; injection e2 with e2; omega))
                      have BL_41 := Lib.hid (BL_40.out.grown hg6 (by intro e; have e2 : some g8 = some o3 := e; injection e2 with e2; omega))
                      have O6_41 := Lib.hid own6
                      refine hK.out _ _ (fun h => absurd h (by decide)) ?_
                      clear hK Kc own6 hg6 at6
                      try simp only [List.getElem_toArray, List.getElem_cons_zero, List.getElem_cons_succ, Act.put, List.setIfInBounds_toArray, List.set_cons_zero, List.set_cons_succ]
                      clear P_40 BR_40 OC_40 B5_40 BL_40
                      refine wpAnyN_next (i := 7) rfl (by kernel_rfl) (fun Kc hK => ?_)
                      go_simp
                      refine hK.out _ _ (fun h => absurd h (by decide)) ?_
                      clear hK Kc
                      try simp only [List.getElem_toArray, List.getElem_cons_zero, List.getElem_cons_succ, Act.put, List.setIfInBounds_toArray, List.set_cons_zero, List.set_cons_succ]
                      refine wpAnyN_next (i := 9) rfl (by kernel_rfl) (fun Kc hK => ?_)
                      have b9c := BL_41.out.cell 0
                      have b9f := BL_41.out.frozen
                      have b9l := BL_41.out.lt
                      go_simp
                      have P_43 := Lib.hid (P_41.out.keepAt (gb_set x41 g8 0 (.slice A6 (n + 1) c6)) (show w.heap.size + 2 ≤ g8 by omega) (by omega))
                      have BL_43 := Lib.hid (BL_41.out.set_ 0 (.slice A6 (n + 1) c6))
                      have O6_43 := Lib.hid (own_kept' (i := 0) O6_41.out BL_41.out (by decide) (.slice A6 (n + 1) c6))
                      refine hK.out _ _ (fun h => absurd h (by decide)) ?_
                      clear hK Kc b9c b9f b9l
                      try simp only [List.getElem_toArray, List.getElem_cons_zero, List.getElem_cons_succ, Act.put, List.setIfInBounds_toArray, List.set_cons_zero, List.set_cons_succ]
                      refine wpAnyN_done (by kernel_rfl) ?_ _
                      go_wp2_with fail
                      go_meet
                      exact ⟨g8, A6, c6, rfl, P_43, BL_43, O6_43, Lib.hid g8_low⟩
                    · intro Kc hK
                      go_simp
                      have P_44 := Lib.hid (P_38.out.alloc (.cells #[.string .empty, .int .i64 l, .int .i64 r] 72))
                      have BR_44 := Lib.hid (BR_38.out.alloc (.cells #[.string .empty, .int .i64 l, .int .i64 r] 72))
                      have OE_44 := Lib.hid (OE_38.out.alloc (.cells #[.string .empty, .int .i64 l, .int .i64 r] 72))
                      have BL_44 := Lib.hid (BL_38.out.alloc (.cells #[.string .empty, .int .i64 l, .int .i64 r] 72))
                      have B5_44 := Lib.hid (Blk.new x38 72 #[.string .empty, .int .i64 l, .int .i64 r])
                      have ng5_gr : gr < x38.heap.size := BR_38.out.lt
                      have ng5_ga : ga < x38.heap.size := (P_38.out.q.lt ga rfl).2
                      have ng5_e0 : e0 < x38.heap.size := (OE_38.out.lt e0 rfl).2
                      have ng5_g8 : g8 < x38.heap.size := BL_38.out.lt
                      have g5_low : w.heap.size + 1 < x38.heap.size := P_38.out.x.lt
                      refine hK.out _ _ (fun _ => ⟨P_44.out.x.cell 0, BR_44.out.three⟩) ?_
                      clear hK Kc
                      try simp only [List.getElem_toArray, List.getElem_cons_zero, List.getElem_cons_succ, Act.put, List.setIfInBounds_toArray, List.set_cons_zero, List.set_cons_succ]
                      generalize x38.heap.size = g5 at *
                      generalize x38.alloc (.cells #[.string .empty, .int .i64 l, .int .i64 r] 72) = x44 at *
                      clear P_38 BR_38 OE_38 BL_38
                      refine wpAnyN_next (i := 3) rfl (by kernel_rfl) (fun Kc hK => ?_)
                      refine step_copyL (by rfl) _ _ _ (by rfl) w.heap.size 72 3 32 elem_rule Fac.cells e0 (by rfl) OE_44.out ⟨ga, 0, none⟩ n c rs (by rfl) HLn.out hn0 (Hnews.out _ P_44.out) (fun x _ => fac_len x) (fun x _ => one_fac x) (by omega) (by omega) (by unfold maxLen; omega) P_44.out.e.size ?_
                      intro A3 c3 x45 own3 hg3 at3
                      obtain ⟨o3, cap3, hv3, _, _⟩ := own3.form hn0
                      obtain rfl : A3 = some ⟨o3, 0, none⟩ := by injection hv3
                      have h3_gr : gr < x44.heap.size := BR_44.out.lt
                      have h3_ga : ga < x44.heap.size := (P_44.out.q.lt ga rfl).2
                      have h3_g5 : g5 < x44.heap.size := B5_44.out.lt
                      have h3_g8 : g8 < x44.heap.size := BL_44.out.lt
                      have at3 : o3 = e0 ∨ o3 = x44.heap.size := at3.imp (fun h => Option.some.inj h) (fun h => Option.some.inj h)
                      have o3_low : w.heap.size + 1 < o3 := by have h := P_44.out.x.lt; rcases at3 with h3 | h3 <;> omega
                      have o3_gr : gr ≠ o3 := by rcases at3 with h3 | h3 <;> omega
                      have o3_ga : ga ≠ o3 := by rcases at3 with h3 | h3 <;> omega
                      have o3_g5 : g5 ≠ o3 := by rcases at3 with h3 | h3 <;> omega
                      have o3_g8 : g8 ≠ o3 := by rcases at3 with h3 | h3 <;> omega
                      have P_45 := Lib.hid (P_44.out.keepAt hg3 (show w.heap.size + 2 ≤ e0 by omega) (by omega))
                      have BR_45 := Lib.hid (BR_44.out.grown hg3 (by intro e; injection e with e; omega))
                      have B5_45 := Lib.hid (B5_44.out.grown hg3 (by intro e; injection e with e; omega))
                      have BL_45 := Lib.hid (BL_44.out.grown hg3 (by intro e; injection e with e; omega))
                      have OC_45 := Lib.hid own3
                      refine hK.out _ _ (fun _ => ⟨P_45.out.x.cell 0, BR_45.out.three⟩) ?_
                      clear hK Kc own3 hg3 at3 hv3 h3_gr h3_ga h3_g5 h3_g8
                      try simp only [List.getElem_toArray, List.getElem_cons_zero, List.getElem_cons_succ, Act.put, List.setIfInBounds_toArray, List.set_cons_zero, List.set_cons_succ]
                      clear P_44 BR_44 OE_44 B5_44 BL_44
                      refine wpAnyN_next (i := 6) rfl (by kernel_rfl) (fun Kc hK => ?_)
                      refine step_pushL (by rfl) _ _ _ (by rfl) w.heap.size 72 3 32 elem_rule Fac.cells (some ⟨o3, 0, none⟩) n c3 rs (by rfl) OC_45.out g5 ⟨⟨#[]⟩, l, r⟩ #[.string .empty, .int .i64 l, .int .i64 r] 72 (0, 0) (by rfl) B5_45.out rfl rfl (one_fac _) (by omega) (by omega) (by unfold maxLen; omega) P_45.out.e.size ?_
                      intro A6 c6 x46 own6 hg6 at6
                      have P_46 := Lib.hid (P_45.out.keepAt hg6 (show w.heap.size + 2 ≤ o3 by omega) (by omega))
                      have BR_46 := Lib.hid (BR_45.out.grown hg6 (by intro e; have e2 : some gr = some o3 := e; injection e2 with e2; omega))
                      have BL_46 := Lib.hid (BL_45.out.grown hg6 (by intro e; have e2 : some g8 = some o3 := e; injection e2 with e2; omega))
                      have O6_46 := Lib.hid own6
                      refine hK.out _ _ (fun h => absurd h (by decide)) ?_
                      clear hK Kc own6 hg6 at6
                      try simp only [List.getElem_toArray, List.getElem_cons_zero, List.getElem_cons_succ, Act.put, List.setIfInBounds_toArray, List.set_cons_zero, List.set_cons_succ]
                      clear P_45 BR_45 OC_45 B5_45 BL_45
                      refine wpAnyN_next (i := 7) rfl (by kernel_rfl) (fun Kc hK => ?_)
                      go_simp
                      refine hK.out _ _ (fun h => absurd h (by decide)) ?_
                      clear hK Kc
                      try simp only [List.getElem_toArray, List.getElem_cons_zero, List.getElem_cons_succ, Act.put, List.setIfInBounds_toArray, List.set_cons_zero, List.set_cons_succ]
                      refine wpAnyN_next (i := 9) rfl (by kernel_rfl) (fun Kc hK => ?_)
                      have b9c := BL_46.out.cell 0
                      have b9f := BL_46.out.frozen
                      have b9l := BL_46.out.lt
                      go_simp
                      have P_48 := Lib.hid (P_46.out.keepAt (gb_set x46 g8 0 (.slice A6 (n + 1) c6)) (show w.heap.size + 2 ≤ g8 by omega) (by omega))
                      have BL_48 := Lib.hid (BL_46.out.set_ 0 (.slice A6 (n + 1) c6))
                      have O6_48 := Lib.hid (own_kept' (i := 0) O6_46.out BL_46.out (by decide) (.slice A6 (n + 1) c6))
                      refine hK.out _ _ (fun h => absurd h (by decide)) ?_
                      clear hK Kc b9c b9f b9l
                      try simp only [List.getElem_toArray, List.getElem_cons_zero, List.getElem_cons_succ, Act.put, List.setIfInBounds_toArray, List.set_cons_zero, List.set_cons_succ]
                      refine wpAnyN_done (by kernel_rfl) ?_ _
                      go_wp2_with fail
                      go_meet
                      exact ⟨g8, A6, c6, rfl, P_48, BL_48, O6_48, Lib.hid g8_low⟩
                · intro Kc hK
                  go_simp
                  have P_49 := Lib.hid (P_0.out.alloc (.cells #[.string .empty, .int .i64 l, .int .i64 r] 72))
                  have BR_49 := Lib.hid (BR_0.out.alloc (.cells #[.string .empty, .int .i64 l, .int .i64 r] 72))
                  have B5_49 := Lib.hid (Blk.new wd 72 #[.string .empty, .int .i64 l, .int .i64 r])
                  have ng5_gr : gr < wd.heap.size := BR_0.out.lt
                  have ng5_ga : ga < wd.heap.size := (P_0.out.q.lt ga rfl).2
                  have g5_low : w.heap.size + 1 < wd.heap.size := P_0.out.x.lt
                  refine hK.out _ _ (fun _ => ⟨P_49.out.x.cell 0, BR_49.out.three⟩) ?_
                  clear hK Kc
                  try simp only [List.getElem_toArray, List.getElem_cons_zero, List.getElem_cons_succ, Act.put, List.setIfInBounds_toArray, List.set_cons_zero, List.set_cons_succ]
                  generalize wd.heap.size = g5 at *
                  generalize wd.alloc (.cells #[.string .empty, .int .i64 l, .int .i64 r] 72) = x49 at *
                  clear P_0 BR_0
                  refine wpAnyN_2 (i := 0) (j := 8) rfl rfl (by kernel_rfl) ?_ ?_
                  · intro Kc hK
                    go_simp
                    have P_50 := Lib.hid (P_49.out.alloc (.cells #[] 72))
                    have BR_50 := Lib.hid (BR_49.out.alloc (.cells #[] 72))
                    have B5_50 := Lib.hid (B5_49.out.alloc (.cells #[] 72))
                    have OE_50 := Lib.hid (World.ownsRow_made (base := w.heap.size) (e := 72) (size := 3) x49 #[] 0 (by have := P_49.out.x.lt; omega) (by unfold maxLen; omega) rfl)
                    have ne0_gr : gr < x49.heap.size := BR_49.out.lt
                    have ne0_ga : ga < x49.heap.size := (P_49.out.q.lt ga rfl).2
                    have ne0_g5 : g5 < x49.heap.size := B5_49.out.lt
                    have e0_low : w.heap.size + 1 < x49.heap.size := P_49.out.x.lt
                    refine hK.out _ _ (fun _ => ⟨P_50.out.x.cell 0, BR_50.out.three⟩) ?_
                    clear hK Kc
                    try simp only [List.getElem_toArray, List.getElem_cons_zero, List.getElem_cons_succ, Act.put, List.setIfInBounds_toArray, List.set_cons_zero, List.set_cons_succ]
                    generalize x49.heap.size = e0 at *
                    generalize x49.alloc (.cells #[] 72) = x50 at *
                    clear P_49 BR_49 B5_49
                    refine wpAnyN_2 (i := 3) (j := 8) rfl rfl (by kernel_rfl) ?_ ?_
                    · intro Kc hK
                      refine step_copyL (by rfl) _ _ _ (by rfl) w.heap.size 72 3 32 elem_rule Fac.cells e0 (by rfl) OE_50.out ⟨ga, 0, none⟩ n c rs (by rfl) HLn.out hn0 (Hnews.out _ P_50.out) (fun x _ => fac_len x) (fun x _ => one_fac x) (by omega) (by omega) (by unfold maxLen; omega) P_50.out.e.size ?_
                      intro A3 c3 x51 own3 hg3 at3
                      obtain ⟨o3, cap3, hv3, _, _⟩ := own3.form hn0
                      obtain rfl : A3 = some ⟨o3, 0, none⟩ := by injection hv3
                      have h3_gr : gr < x50.heap.size := BR_50.out.lt
                      have h3_ga : ga < x50.heap.size := (P_50.out.q.lt ga rfl).2
                      have h3_g5 : g5 < x50.heap.size := B5_50.out.lt
                      have at3 : o3 = e0 ∨ o3 = x50.heap.size := at3.imp (fun h => Option.some.inj h) (fun h => Option.some.inj h)
                      have o3_low : w.heap.size + 1 < o3 := by have h := P_50.out.x.lt; rcases at3 with h3 | h3 <;> omega
                      have o3_gr : gr ≠ o3 := by rcases at3 with h3 | h3 <;> omega
                      have o3_ga : ga ≠ o3 := by rcases at3 with h3 | h3 <;> omega
                      have o3_g5 : g5 ≠ o3 := by rcases at3 with h3 | h3 <;> omega
                      have P_51 := Lib.hid (P_50.out.keepAt hg3 (show w.heap.size + 2 ≤ e0 by omega) (by omega))
                      have BR_51 := Lib.hid (BR_50.out.grown hg3 (by intro e; injection e with e; omega))
                      have B5_51 := Lib.hid (B5_50.out.grown hg3 (by intro e; injection e with e; omega))
                      have OC_51 := Lib.hid own3
                      refine hK.out _ _ (fun _ => ⟨P_51.out.x.cell 0, BR_51.out.three⟩) ?_
                      clear hK Kc own3 hg3 at3 hv3 h3_gr h3_ga h3_g5
                      try simp only [List.getElem_toArray, List.getElem_cons_zero, List.getElem_cons_succ, Act.put, List.setIfInBounds_toArray, List.set_cons_zero, List.set_cons_succ]
                      clear P_50 BR_50 OE_50 B5_50
                      refine wpAnyN_2 (i := 6) (j := 8) rfl rfl (by kernel_rfl) ?_ ?_
                      · intro Kc hK
                        refine step_pushL (by rfl) _ _ _ (by rfl) w.heap.size 72 3 32 elem_rule Fac.cells (some ⟨o3, 0, none⟩) n c3 rs (by rfl) OC_51.out g5 ⟨⟨#[]⟩, l, r⟩ #[.string .empty, .int .i64 l, .int .i64 r] 72 (0, 0) (by rfl) B5_51.out rfl rfl (one_fac _) (by omega) (by omega) (by unfold maxLen; omega) P_51.out.e.size ?_
                        intro A6 c6 x52 own6 hg6 at6
                        have P_52 := Lib.hid (P_51.out.keepAt hg6 (show w.heap.size + 2 ≤ o3 by omega) (by omega))
                        have BR_52 := Lib.hid (BR_51.out.grown hg6 (by intro e; have e2 : some gr = some o3 := e; injection e2 with e2; omega))
                        have O6_52 := Lib.hid own6
                        refine hK.out _ _ (fun h => absurd h (by decide)) ?_
                        clear hK Kc own6 hg6 at6
                        try simp only [List.getElem_toArray, List.getElem_cons_zero, List.getElem_cons_succ, Act.put, List.setIfInBounds_toArray, List.set_cons_zero, List.set_cons_succ]
                        clear P_51 BR_51 OC_51 B5_51
                        refine wpAnyN_2 (i := 7) (j := 8) rfl rfl (by kernel_rfl) ?_ ?_
                        · intro Kc hK
                          go_simp
                          refine hK.out _ _ (fun h => absurd h (by decide)) ?_
                          clear hK Kc
                          try simp only [List.getElem_toArray, List.getElem_cons_zero, List.getElem_cons_succ, Act.put, List.setIfInBounds_toArray, List.set_cons_zero, List.set_cons_succ]
                          refine wpAnyN_next (i := 8) rfl (by kernel_rfl) (fun Kc hK => ?_)
                          go_simp
                          have P_54 := Lib.hid (P_52.out.alloc (.cells #[.slice none 0 0] 31))
                          have BR_54 := Lib.hid (BR_52.out.alloc (.cells #[.slice none 0 0] 31))
                          have O6_54 := Lib.hid (O6_52.out.alloc (.cells #[.slice none 0 0] 31))
                          have BL_54 := Lib.hid (Blk.new x52 31 #[.slice none 0 0])
                          have ng8_gr : gr < x52.heap.size := BR_52.out.lt
                          have ng8_ga : ga < x52.heap.size := (P_52.out.q.lt ga rfl).2
                          have g8_low : w.heap.size + 1 < x52.heap.size := P_52.out.x.lt
                          refine hK.out _ _ (fun _ => ⟨P_54.out.x.cell 0, BR_54.out.three⟩) ?_
                          clear hK Kc
                          try simp only [List.getElem_toArray, List.getElem_cons_zero, List.getElem_cons_succ, Act.put, List.setIfInBounds_toArray, List.set_cons_zero, List.set_cons_succ]
                          generalize x52.heap.size = g8 at *
                          generalize x52.alloc (.cells #[.slice none 0 0] 31) = x54 at *
                          clear P_52 BR_52 O6_52
                          refine wpAnyN_next (i := 9) rfl (by kernel_rfl) (fun Kc hK => ?_)
                          have b9c := BL_54.out.cell 0
                          have b9f := BL_54.out.frozen
                          have b9l := BL_54.out.lt
                          go_simp
                          have P_55 := Lib.hid (P_54.out.keepAt (gb_set x54 g8 0 (.slice A6 (n + 1) c6)) (show w.heap.size + 2 ≤ g8 by omega) (by omega))
                          have BL_55 := Lib.hid (BL_54.out.set_ 0 (.slice A6 (n + 1) c6))
                          have O6_55 := Lib.hid (own_kept' (i := 0) O6_54.out BL_54.out (by decide) (.slice A6 (n + 1) c6))
                          refine hK.out _ _ (fun h => absurd h (by decide)) ?_
                          clear hK Kc b9c b9f b9l
                          try simp only [List.getElem_toArray, List.getElem_cons_zero, List.getElem_cons_succ, Act.put, List.setIfInBounds_toArray, List.set_cons_zero, List.set_cons_succ]
                          refine wpAnyN_done (by kernel_rfl) ?_ _
                          go_wp2_with fail
                          go_meet
                          exact ⟨g8, A6, c6, rfl, P_55, BL_55, O6_55, Lib.hid g8_low⟩
                        · intro Kc hK
                          go_simp
                          have P_56 := Lib.hid (P_52.out.alloc (.cells #[.slice none 0 0] 31))
                          have BR_56 := Lib.hid (BR_52.out.alloc (.cells #[.slice none 0 0] 31))
                          have O6_56 := Lib.hid (O6_52.out.alloc (.cells #[.slice none 0 0] 31))
                          have BL_56 := Lib.hid (Blk.new x52 31 #[.slice none 0 0])
                          have ng8_gr : gr < x52.heap.size := BR_52.out.lt
                          have ng8_ga : ga < x52.heap.size := (P_52.out.q.lt ga rfl).2
                          have g8_low : w.heap.size + 1 < x52.heap.size := P_52.out.x.lt
                          refine hK.out _ _ (fun _ => ⟨P_56.out.x.cell 0, BR_56.out.three⟩) ?_
                          clear hK Kc
                          try simp only [List.getElem_toArray, List.getElem_cons_zero, List.getElem_cons_succ, Act.put, List.setIfInBounds_toArray, List.set_cons_zero, List.set_cons_succ]
                          generalize x52.heap.size = g8 at *
                          generalize x52.alloc (.cells #[.slice none 0 0] 31) = x56 at *
                          clear P_52 BR_52 O6_52
                          refine wpAnyN_next (i := 7) rfl (by kernel_rfl) (fun Kc hK => ?_)
                          go_simp
                          refine hK.out _ _ (fun h => absurd h (by decide)) ?_
                          clear hK Kc
                          try simp only [List.getElem_toArray, List.getElem_cons_zero, List.getElem_cons_succ, Act.put, List.setIfInBounds_toArray, List.set_cons_zero, List.set_cons_succ]
                          refine wpAnyN_next (i := 9) rfl (by kernel_rfl) (fun Kc hK => ?_)
                          have b9c := BL_56.out.cell 0
                          have b9f := BL_56.out.frozen
                          have b9l := BL_56.out.lt
                          go_simp
                          have P_58 := Lib.hid (P_56.out.keepAt (gb_set x56 g8 0 (.slice A6 (n + 1) c6)) (show w.heap.size + 2 ≤ g8 by omega) (by omega))
                          have BL_58 := Lib.hid (BL_56.out.set_ 0 (.slice A6 (n + 1) c6))
                          have O6_58 := Lib.hid (own_kept' (i := 0) O6_56.out BL_56.out (by decide) (.slice A6 (n + 1) c6))
                          refine hK.out _ _ (fun h => absurd h (by decide)) ?_
                          clear hK Kc b9c b9f b9l
                          try simp only [List.getElem_toArray, List.getElem_cons_zero, List.getElem_cons_succ, Act.put, List.setIfInBounds_toArray, List.set_cons_zero, List.set_cons_succ]
                          refine wpAnyN_done (by kernel_rfl) ?_ _
                          go_wp2_with fail
                          go_meet
                          exact ⟨g8, A6, c6, rfl, P_58, BL_58, O6_58, Lib.hid g8_low⟩
                      · intro Kc hK
                        go_simp
                        have P_59 := Lib.hid (P_51.out.alloc (.cells #[.slice none 0 0] 31))
                        have BR_59 := Lib.hid (BR_51.out.alloc (.cells #[.slice none 0 0] 31))
                        have OC_59 := Lib.hid (OC_51.out.alloc (.cells #[.slice none 0 0] 31))
                        have B5_59 := Lib.hid (B5_51.out.alloc (.cells #[.slice none 0 0] 31))
                        have BL_59 := Lib.hid (Blk.new x51 31 #[.slice none 0 0])
                        have ng8_gr : gr < x51.heap.size := BR_51.out.lt
                        have ng8_ga : ga < x51.heap.size := (P_51.out.q.lt ga rfl).2
                        have ng8_o3 : o3 < x51.heap.size := (OC_51.out.lt o3 rfl).2
                        have ng8_g5 : g5 < x51.heap.size := B5_51.out.lt
                        have g8_low : w.heap.size + 1 < x51.heap.size := P_51.out.x.lt
                        refine hK.out _ _ (fun _ => ⟨P_59.out.x.cell 0, BR_59.out.three⟩) ?_
                        clear hK Kc
                        try simp only [List.getElem_toArray, List.getElem_cons_zero, List.getElem_cons_succ, Act.put, List.setIfInBounds_toArray, List.set_cons_zero, List.set_cons_succ]
                        generalize x51.heap.size = g8 at *
                        generalize x51.alloc (.cells #[.slice none 0 0] 31) = x59 at *
                        clear P_51 BR_51 OC_51 B5_51
                        refine wpAnyN_next (i := 6) rfl (by kernel_rfl) (fun Kc hK => ?_)
                        refine step_pushL (by rfl) _ _ _ (by rfl) w.heap.size 72 3 32 elem_rule Fac.cells (some ⟨o3, 0, none⟩) n c3 rs (by rfl) OC_59.out g5 ⟨⟨#[]⟩, l, r⟩ #[.string .empty, .int .i64 l, .int .i64 r] 72 (0, 0) (by rfl) B5_59.out rfl rfl (one_fac _) (by omega) (by omega) (by unfold maxLen; omega) P_59.out.e.size ?_
                        intro A6 c6 x60 own6 hg6 at6
                        have P_60 := Lib.hid (P_59.out.keepAt hg6 (show w.heap.size + 2 ≤ o3 by omega) (by omega))
                        have BR_60 := Lib.hid (BR_59.out.grown hg6 (by intro e; have e2 : some gr = some o3 := e; injection e2 with e2; omega))
                        have BL_60 := Lib.hid (BL_59.out.grown hg6 (by intro e; have e2 : some g8 = some o3 := e; injection e2 with e2; omega))
                        have O6_60 := Lib.hid own6
                        refine hK.out _ _ (fun h => absurd h (by decide)) ?_
                        clear hK Kc own6 hg6 at6
                        try simp only [List.getElem_toArray, List.getElem_cons_zero, List.getElem_cons_succ, Act.put, List.setIfInBounds_toArray, List.set_cons_zero, List.set_cons_succ]
                        clear P_59 BR_59 OC_59 B5_59 BL_59
                        refine wpAnyN_next (i := 7) rfl (by kernel_rfl) (fun Kc hK => ?_)
                        go_simp
                        refine hK.out _ _ (fun h => absurd h (by decide)) ?_
                        clear hK Kc
                        try simp only [List.getElem_toArray, List.getElem_cons_zero, List.getElem_cons_succ, Act.put, List.setIfInBounds_toArray, List.set_cons_zero, List.set_cons_succ]
                        refine wpAnyN_next (i := 9) rfl (by kernel_rfl) (fun Kc hK => ?_)
                        have b9c := BL_60.out.cell 0
                        have b9f := BL_60.out.frozen
                        have b9l := BL_60.out.lt
                        go_simp
                        have P_62 := Lib.hid (P_60.out.keepAt (gb_set x60 g8 0 (.slice A6 (n + 1) c6)) (show w.heap.size + 2 ≤ g8 by omega) (by omega))
                        have BL_62 := Lib.hid (BL_60.out.set_ 0 (.slice A6 (n + 1) c6))
                        have O6_62 := Lib.hid (own_kept' (i := 0) O6_60.out BL_60.out (by decide) (.slice A6 (n + 1) c6))
                        refine hK.out _ _ (fun h => absurd h (by decide)) ?_
                        clear hK Kc b9c b9f b9l
                        try simp only [List.getElem_toArray, List.getElem_cons_zero, List.getElem_cons_succ, Act.put, List.setIfInBounds_toArray, List.set_cons_zero, List.set_cons_succ]
                        refine wpAnyN_done (by kernel_rfl) ?_ _
                        go_wp2_with fail
                        go_meet
                        exact ⟨g8, A6, c6, rfl, P_62, BL_62, O6_62, Lib.hid g8_low⟩
                    · intro Kc hK
                      go_simp
                      have P_63 := Lib.hid (P_50.out.alloc (.cells #[.slice none 0 0] 31))
                      have BR_63 := Lib.hid (BR_50.out.alloc (.cells #[.slice none 0 0] 31))
                      have OE_63 := Lib.hid (OE_50.out.alloc (.cells #[.slice none 0 0] 31))
                      have B5_63 := Lib.hid (B5_50.out.alloc (.cells #[.slice none 0 0] 31))
                      have BL_63 := Lib.hid (Blk.new x50 31 #[.slice none 0 0])
                      have ng8_gr : gr < x50.heap.size := BR_50.out.lt
                      have ng8_ga : ga < x50.heap.size := (P_50.out.q.lt ga rfl).2
                      have ng8_e0 : e0 < x50.heap.size := (OE_50.out.lt e0 rfl).2
                      have ng8_g5 : g5 < x50.heap.size := B5_50.out.lt
                      have g8_low : w.heap.size + 1 < x50.heap.size := P_50.out.x.lt
                      refine hK.out _ _ (fun _ => ⟨P_63.out.x.cell 0, BR_63.out.three⟩) ?_
                      clear hK Kc
                      try simp only [List.getElem_toArray, List.getElem_cons_zero, List.getElem_cons_succ, Act.put, List.setIfInBounds_toArray, List.set_cons_zero, List.set_cons_succ]
                      generalize x50.heap.size = g8 at *
                      generalize x50.alloc (.cells #[.slice none 0 0] 31) = x63 at *
                      clear P_50 BR_50 OE_50 B5_50
                      refine wpAnyN_next (i := 3) rfl (by kernel_rfl) (fun Kc hK => ?_)
                      refine step_copyL (by rfl) _ _ _ (by rfl) w.heap.size 72 3 32 elem_rule Fac.cells e0 (by rfl) OE_63.out ⟨ga, 0, none⟩ n c rs (by rfl) HLn.out hn0 (Hnews.out _ P_63.out) (fun x _ => fac_len x) (fun x _ => one_fac x) (by omega) (by omega) (by unfold maxLen; omega) P_63.out.e.size ?_
                      intro A3 c3 x64 own3 hg3 at3
                      obtain ⟨o3, cap3, hv3, _, _⟩ := own3.form hn0
                      obtain rfl : A3 = some ⟨o3, 0, none⟩ := by injection hv3
                      have h3_gr : gr < x63.heap.size := BR_63.out.lt
                      have h3_ga : ga < x63.heap.size := (P_63.out.q.lt ga rfl).2
                      have h3_g5 : g5 < x63.heap.size := B5_63.out.lt
                      have h3_g8 : g8 < x63.heap.size := BL_63.out.lt
                      have at3 : o3 = e0 ∨ o3 = x63.heap.size := at3.imp (fun h => Option.some.inj h) (fun h => Option.some.inj h)
                      have o3_low : w.heap.size + 1 < o3 := by have h := P_63.out.x.lt; rcases at3 with h3 | h3 <;> omega
                      have o3_gr : gr ≠ o3 := by rcases at3 with h3 | h3 <;> omega
                      have o3_ga : ga ≠ o3 := by rcases at3 with h3 | h3 <;> omega
                      have o3_g5 : g5 ≠ o3 := by rcases at3 with h3 | h3 <;> omega
                      have o3_g8 : g8 ≠ o3 := by rcases at3 with h3 | h3 <;> omega
                      have P_64 := Lib.hid (P_63.out.keepAt hg3 (show w.heap.size + 2 ≤ e0 by omega) (by omega))
                      have BR_64 := Lib.hid (BR_63.out.grown hg3 (by intro e; injection e with e; omega))
                      have B5_64 := Lib.hid (B5_63.out.grown hg3 (by intro e; injection e with e; omega))
                      have BL_64 := Lib.hid (BL_63.out.grown hg3 (by intro e; injection e with e; omega))
                      have OC_64 := Lib.hid own3
                      refine hK.out _ _ (fun _ => ⟨P_64.out.x.cell 0, BR_64.out.three⟩) ?_
                      clear hK Kc own3 hg3 at3 hv3 h3_gr h3_ga h3_g5 h3_g8
                      try simp only [List.getElem_toArray, List.getElem_cons_zero, List.getElem_cons_succ, Act.put, List.setIfInBounds_toArray, List.set_cons_zero, List.set_cons_succ]
                      clear P_63 BR_63 OE_63 B5_63 BL_63
                      refine wpAnyN_next (i := 6) rfl (by kernel_rfl) (fun Kc hK => ?_)
                      refine step_pushL (by rfl) _ _ _ (by rfl) w.heap.size 72 3 32 elem_rule Fac.cells (some ⟨o3, 0, none⟩) n c3 rs (by rfl) OC_64.out g5 ⟨⟨#[]⟩, l, r⟩ #[.string .empty, .int .i64 l, .int .i64 r] 72 (0, 0) (by rfl) B5_64.out rfl rfl (one_fac _) (by omega) (by omega) (by unfold maxLen; omega) P_64.out.e.size ?_
                      intro A6 c6 x65 own6 hg6 at6
                      have P_65 := Lib.hid (P_64.out.keepAt hg6 (show w.heap.size + 2 ≤ o3 by omega) (by omega))
                      have BR_65 := Lib.hid (BR_64.out.grown hg6 (by intro e; have e2 : some gr = some o3 := e; injection e2 with e2; omega))
                      have BL_65 := Lib.hid (BL_64.out.grown hg6 (by intro e; have e2 : some g8 = some o3 := e; injection e2 with e2; omega))
                      have O6_65 := Lib.hid own6
                      refine hK.out _ _ (fun h => absurd h (by decide)) ?_
                      clear hK Kc own6 hg6 at6
                      try simp only [List.getElem_toArray, List.getElem_cons_zero, List.getElem_cons_succ, Act.put, List.setIfInBounds_toArray, List.set_cons_zero, List.set_cons_succ]
                      clear P_64 BR_64 OC_64 B5_64 BL_64
                      refine wpAnyN_next (i := 7) rfl (by kernel_rfl) (fun Kc hK => ?_)
                      go_simp
                      refine hK.out _ _ (fun h => absurd h (by decide)) ?_
                      clear hK Kc
                      try simp only [List.getElem_toArray, List.getElem_cons_zero, List.getElem_cons_succ, Act.put, List.setIfInBounds_toArray, List.set_cons_zero, List.set_cons_succ]
                      refine wpAnyN_next (i := 9) rfl (by kernel_rfl) (fun Kc hK => ?_)
                      have b9c := BL_65.out.cell 0
                      have b9f := BL_65.out.frozen
                      have b9l := BL_65.out.lt
                      go_simp
                      have P_67 := Lib.hid (P_65.out.keepAt (gb_set x65 g8 0 (.slice A6 (n + 1) c6)) (show w.heap.size + 2 ≤ g8 by omega) (by omega))
                      have BL_67 := Lib.hid (BL_65.out.set_ 0 (.slice A6 (n + 1) c6))
                      have O6_67 := Lib.hid (own_kept' (i := 0) O6_65.out BL_65.out (by decide) (.slice A6 (n + 1) c6))
                      refine hK.out _ _ (fun h => absurd h (by decide)) ?_
                      clear hK Kc b9c b9f b9l
                      try simp only [List.getElem_toArray, List.getElem_cons_zero, List.getElem_cons_succ, Act.put, List.setIfInBounds_toArray, List.set_cons_zero, List.set_cons_succ]
                      refine wpAnyN_done (by kernel_rfl) ?_ _
                      go_wp2_with fail
                      go_meet
                      exact ⟨g8, A6, c6, rfl, P_67, BL_67, O6_67, Lib.hid g8_low⟩
                  · intro Kc hK
                    go_simp
                    have P_68 := Lib.hid (P_49.out.alloc (.cells #[.slice none 0 0] 31))
                    have BR_68 := Lib.hid (BR_49.out.alloc (.cells #[.slice none 0 0] 31))
                    have B5_68 := Lib.hid (B5_49.out.alloc (.cells #[.slice none 0 0] 31))
                    have BL_68 := Lib.hid (Blk.new x49 31 #[.slice none 0 0])
                    have ng8_gr : gr < x49.heap.size := BR_49.out.lt
                    have ng8_ga : ga < x49.heap.size := (P_49.out.q.lt ga rfl).2
                    have ng8_g5 : g5 < x49.heap.size := B5_49.out.lt
                    have g8_low : w.heap.size + 1 < x49.heap.size := P_49.out.x.lt
                    refine hK.out _ _ (fun _ => ⟨P_68.out.x.cell 0, BR_68.out.three⟩) ?_
                    clear hK Kc
                    try simp only [List.getElem_toArray, List.getElem_cons_zero, List.getElem_cons_succ, Act.put, List.setIfInBounds_toArray, List.set_cons_zero, List.set_cons_succ]
                    generalize x49.heap.size = g8 at *
                    generalize x49.alloc (.cells #[.slice none 0 0] 31) = x68 at *
                    clear P_49 BR_49 B5_49
                    refine wpAnyN_next (i := 0) rfl (by kernel_rfl) (fun Kc hK => ?_)
                    go_simp
                    have P_69 := Lib.hid (P_68.out.alloc (.cells #[] 72))
                    have BR_69 := Lib.hid (BR_68.out.alloc (.cells #[] 72))
                    have B5_69 := Lib.hid (B5_68.out.alloc (.cells #[] 72))
                    have BL_69 := Lib.hid (BL_68.out.alloc (.cells #[] 72))
                    have OE_69 := Lib.hid (World.ownsRow_made (base := w.heap.size) (e := 72) (size := 3) x68 #[] 0 (by have := P_68.out.x.lt; omega) (by unfold maxLen; omega) rfl)
                    have ne0_gr : gr < x68.heap.size := BR_68.out.lt
                    have ne0_ga : ga < x68.heap.size := (P_68.out.q.lt ga rfl).2
                    have ne0_g5 : g5 < x68.heap.size := B5_68.out.lt
                    have ne0_g8 : g8 < x68.heap.size := BL_68.out.lt
                    have e0_low : w.heap.size + 1 < x68.heap.size := P_68.out.x.lt
                    refine hK.out _ _ (fun _ => ⟨P_69.out.x.cell 0, BR_69.out.three⟩) ?_
                    clear hK Kc
                    try simp only [List.getElem_toArray, List.getElem_cons_zero, List.getElem_cons_succ, Act.put, List.setIfInBounds_toArray, List.set_cons_zero, List.set_cons_succ]
                    generalize x68.heap.size = e0 at *
                    generalize x68.alloc (.cells #[] 72) = x69 at *
                    clear P_68 BR_68 B5_68 BL_68
                    refine wpAnyN_next (i := 3) rfl (by kernel_rfl) (fun Kc hK => ?_)
                    refine step_copyL (by rfl) _ _ _ (by rfl) w.heap.size 72 3 32 elem_rule Fac.cells e0 (by rfl) OE_69.out ⟨ga, 0, none⟩ n c rs (by rfl) HLn.out hn0 (Hnews.out _ P_69.out) (fun x _ => fac_len x) (fun x _ => one_fac x) (by omega) (by omega) (by unfold maxLen; omega) P_69.out.e.size ?_
                    intro A3 c3 x70 own3 hg3 at3
                    obtain ⟨o3, cap3, hv3, _, _⟩ := own3.form hn0
                    obtain rfl : A3 = some ⟨o3, 0, none⟩ := by injection hv3
                    have h3_gr : gr < x69.heap.size := BR_69.out.lt
                    have h3_ga : ga < x69.heap.size := (P_69.out.q.lt ga rfl).2
                    have h3_g5 : g5 < x69.heap.size := B5_69.out.lt
                    have h3_g8 : g8 < x69.heap.size := BL_69.out.lt
                    have at3 : o3 = e0 ∨ o3 = x69.heap.size := at3.imp (fun h => Option.some.inj h) (fun h => Option.some.inj h)
                    have o3_low : w.heap.size + 1 < o3 := by have h := P_69.out.x.lt; rcases at3 with h3 | h3 <;> omega
                    have o3_gr : gr ≠ o3 := by rcases at3 with h3 | h3 <;> omega
                    have o3_ga : ga ≠ o3 := by rcases at3 with h3 | h3 <;> omega
                    have o3_g5 : g5 ≠ o3 := by rcases at3 with h3 | h3 <;> omega
                    have o3_g8 : g8 ≠ o3 := by rcases at3 with h3 | h3 <;> omega
                    have P_70 := Lib.hid (P_69.out.keepAt hg3 (show w.heap.size + 2 ≤ e0 by omega) (by omega))
                    have BR_70 := Lib.hid (BR_69.out.grown hg3 (by intro e; injection e with e; omega))
                    have B5_70 := Lib.hid (B5_69.out.grown hg3 (by intro e; injection e with e; omega))
                    have BL_70 := Lib.hid (BL_69.out.grown hg3 (by intro e; injection e with e; omega))
                    have OC_70 := Lib.hid own3
                    refine hK.out _ _ (fun _ => ⟨P_70.out.x.cell 0, BR_70.out.three⟩) ?_
                    clear hK Kc own3 hg3 at3 hv3 h3_gr h3_ga h3_g5 h3_g8
                    try simp only [List.getElem_toArray, List.getElem_cons_zero, List.getElem_cons_succ, Act.put, List.setIfInBounds_toArray, List.set_cons_zero, List.set_cons_succ]
                    clear P_69 BR_69 OE_69 B5_69 BL_69
                    refine wpAnyN_next (i := 6) rfl (by kernel_rfl) (fun Kc hK => ?_)
                    refine step_pushL (by rfl) _ _ _ (by rfl) w.heap.size 72 3 32 elem_rule Fac.cells (some ⟨o3, 0, none⟩) n c3 rs (by rfl) OC_70.out g5 ⟨⟨#[]⟩, l, r⟩ #[.string .empty, .int .i64 l, .int .i64 r] 72 (0, 0) (by rfl) B5_70.out rfl rfl (one_fac _) (by omega) (by omega) (by unfold maxLen; omega) P_70.out.e.size ?_
                    intro A6 c6 x71 own6 hg6 at6
                    have P_71 := Lib.hid (P_70.out.keepAt hg6 (show w.heap.size + 2 ≤ o3 by omega) (by omega))
                    have BR_71 := Lib.hid (BR_70.out.grown hg6 (by intro e; have e2 : some gr = some o3 := e; injection e2 with e2; omega))
                    have BL_71 := Lib.hid (BL_70.out.grown hg6 (by intro e; have e2 : some g8 = some o3 := e; injection e2 with e2; omega))
                    have O6_71 := Lib.hid own6
                    refine hK.out _ _ (fun h => absurd h (by decide)) ?_
                    clear hK Kc own6 hg6 at6
                    try simp only [List.getElem_toArray, List.getElem_cons_zero, List.getElem_cons_succ, Act.put, List.setIfInBounds_toArray, List.set_cons_zero, List.set_cons_succ]
                    clear P_70 BR_70 OC_70 B5_70 BL_70
                    refine wpAnyN_next (i := 7) rfl (by kernel_rfl) (fun Kc hK => ?_)
                    go_simp
                    refine hK.out _ _ (fun h => absurd h (by decide)) ?_
                    clear hK Kc
                    try simp only [List.getElem_toArray, List.getElem_cons_zero, List.getElem_cons_succ, Act.put, List.setIfInBounds_toArray, List.set_cons_zero, List.set_cons_succ]
                    refine wpAnyN_next (i := 9) rfl (by kernel_rfl) (fun Kc hK => ?_)
                    have b9c := BL_71.out.cell 0
                    have b9f := BL_71.out.frozen
                    have b9l := BL_71.out.lt
                    go_simp
                    have P_73 := Lib.hid (P_71.out.keepAt (gb_set x71 g8 0 (.slice A6 (n + 1) c6)) (show w.heap.size + 2 ≤ g8 by omega) (by omega))
                    have BL_73 := Lib.hid (BL_71.out.set_ 0 (.slice A6 (n + 1) c6))
                    have O6_73 := Lib.hid (own_kept' (i := 0) O6_71.out BL_71.out (by decide) (.slice A6 (n + 1) c6))
                    refine hK.out _ _ (fun h => absurd h (by decide)) ?_
                    clear hK Kc b9c b9f b9l
                    try simp only [List.getElem_toArray, List.getElem_cons_zero, List.getElem_cons_succ, Act.put, List.setIfInBounds_toArray, List.set_cons_zero, List.set_cons_succ]
                    refine wpAnyN_done (by kernel_rfl) ?_ _
                    go_wp2_with fail
                    go_meet
                    exact ⟨g8, A6, c6, rfl, P_73, BL_73, O6_73, Lib.hid g8_low⟩
                · intro Kc hK
                  go_simp
                  have P_74 := Lib.hid (P_0.out.alloc (.cells #[.slice none 0 0] 31))
                  have BR_74 := Lib.hid (BR_0.out.alloc (.cells #[.slice none 0 0] 31))
                  have BL_74 := Lib.hid (Blk.new wd 31 #[.slice none 0 0])
                  have ng8_gr : gr < wd.heap.size := BR_0.out.lt
                  have ng8_ga : ga < wd.heap.size := (P_0.out.q.lt ga rfl).2
                  have g8_low : w.heap.size + 1 < wd.heap.size := P_0.out.x.lt
                  refine hK.out _ _ (fun _ => ⟨P_74.out.x.cell 0, BR_74.out.three⟩) ?_
                  clear hK Kc
                  try simp only [List.getElem_toArray, List.getElem_cons_zero, List.getElem_cons_succ, Act.put, List.setIfInBounds_toArray, List.set_cons_zero, List.set_cons_succ]
                  generalize wd.heap.size = g8 at *
                  generalize wd.alloc (.cells #[.slice none 0 0] 31) = x74 at *
                  clear P_0 BR_0
                  refine wpAnyN_2 (i := 0) (j := 5) rfl rfl (by kernel_rfl) ?_ ?_
                  · intro Kc hK
                    go_simp
                    have P_75 := Lib.hid (P_74.out.alloc (.cells #[] 72))
                    have BR_75 := Lib.hid (BR_74.out.alloc (.cells #[] 72))
                    have BL_75 := Lib.hid (BL_74.out.alloc (.cells #[] 72))
                    have OE_75 := Lib.hid (World.ownsRow_made (base := w.heap.size) (e := 72) (size := 3) x74 #[] 0 (by have := P_74.out.x.lt; omega) (by unfold maxLen; omega) rfl)
                    have ne0_gr : gr < x74.heap.size := BR_74.out.lt
                    have ne0_ga : ga < x74.heap.size := (P_74.out.q.lt ga rfl).2
                    have ne0_g8 : g8 < x74.heap.size := BL_74.out.lt
                    have e0_low : w.heap.size + 1 < x74.heap.size := P_74.out.x.lt
                    refine hK.out _ _ (fun _ => ⟨P_75.out.x.cell 0, BR_75.out.three⟩) ?_
                    clear hK Kc
                    try simp only [List.getElem_toArray, List.getElem_cons_zero, List.getElem_cons_succ, Act.put, List.setIfInBounds_toArray, List.set_cons_zero, List.set_cons_succ]
                    generalize x74.heap.size = e0 at *
                    generalize x74.alloc (.cells #[] 72) = x75 at *
                    clear P_74 BR_74 BL_74
                    refine wpAnyN_2 (i := 3) (j := 5) rfl rfl (by kernel_rfl) ?_ ?_
                    · intro Kc hK
                      refine step_copyL (by rfl) _ _ _ (by rfl) w.heap.size 72 3 32 elem_rule Fac.cells e0 (by rfl) OE_75.out ⟨ga, 0, none⟩ n c rs (by rfl) HLn.out hn0 (Hnews.out _ P_75.out) (fun x _ => fac_len x) (fun x _ => one_fac x) (by omega) (by omega) (by unfold maxLen; omega) P_75.out.e.size ?_
                      intro A3 c3 x76 own3 hg3 at3
                      obtain ⟨o3, cap3, hv3, _, _⟩ := own3.form hn0
                      obtain rfl : A3 = some ⟨o3, 0, none⟩ := by injection hv3
                      have h3_gr : gr < x75.heap.size := BR_75.out.lt
                      have h3_ga : ga < x75.heap.size := (P_75.out.q.lt ga rfl).2
                      have h3_g8 : g8 < x75.heap.size := BL_75.out.lt
                      have at3 : o3 = e0 ∨ o3 = x75.heap.size := at3.imp (fun h => Option.some.inj h) (fun h => Option.some.inj h)
                      have o3_low : w.heap.size + 1 < o3 := by have h := P_75.out.x.lt; rcases at3 with h3 | h3 <;> omega
                      have o3_gr : gr ≠ o3 := by rcases at3 with h3 | h3 <;> omega
                      have o3_ga : ga ≠ o3 := by rcases at3 with h3 | h3 <;> omega
                      have o3_g8 : g8 ≠ o3 := by rcases at3 with h3 | h3 <;> omega
                      have P_76 := Lib.hid (P_75.out.keepAt hg3 (show w.heap.size + 2 ≤ e0 by omega) (by omega))
                      have BR_76 := Lib.hid (BR_75.out.grown hg3 (by intro e; injection e with e; omega))
                      have BL_76 := Lib.hid (BL_75.out.grown hg3 (by intro e; injection e with e; omega))
                      have OC_76 := Lib.hid own3
                      refine hK.out _ _ (fun _ => ⟨P_76.out.x.cell 0, BR_76.out.three⟩) ?_
                      clear hK Kc own3 hg3 at3 hv3 h3_gr h3_ga h3_g8
                      try simp only [List.getElem_toArray, List.getElem_cons_zero, List.getElem_cons_succ, Act.put, List.setIfInBounds_toArray, List.set_cons_zero, List.set_cons_succ]
                      clear P_75 BR_75 OE_75 BL_75
                      refine wpAnyN_next (i := 5) rfl (by kernel_rfl) (fun Kc hK => ?_)
                      go_simp
                      have P_77 := Lib.hid (P_76.out.alloc (.cells #[.string .empty, .int .i64 l, .int .i64 r] 72))
                      have BR_77 := Lib.hid (BR_76.out.alloc (.cells #[.string .empty, .int .i64 l, .int .i64 r] 72))
                      have OC_77 := Lib.hid (OC_76.out.alloc (.cells #[.string .empty, .int .i64 l, .int .i64 r] 72))
                      have BL_77 := Lib.hid (BL_76.out.alloc (.cells #[.string .empty, .int .i64 l, .int .i64 r] 72))
                      have B5_77 := Lib.hid (Blk.new x76 72 #[.string .empty, .int .i64 l, .int .i64 r])
                      have ng5_gr : gr < x76.heap.size := BR_76.out.lt
                      have ng5_ga : ga < x76.heap.size := (P_76.out.q.lt ga rfl).2
                      have ng5_o3 : o3 < x76.heap.size := (OC_76.out.lt o3 rfl).2
                      have ng5_g8 : g8 < x76.heap.size := BL_76.out.lt
                      have g5_low : w.heap.size + 1 < x76.heap.size := P_76.out.x.lt
                      refine hK.out _ _ (fun _ => ⟨P_77.out.x.cell 0, BR_77.out.three⟩) ?_
                      clear hK Kc
                      try simp only [List.getElem_toArray, List.getElem_cons_zero, List.getElem_cons_succ, Act.put, List.setIfInBounds_toArray, List.set_cons_zero, List.set_cons_succ]
                      generalize x76.heap.size = g5 at *
                      generalize x76.alloc (.cells #[.string .empty, .int .i64 l, .int .i64 r] 72) = x77 at *
                      clear P_76 BR_76 OC_76 BL_76
                      refine wpAnyN_next (i := 6) rfl (by kernel_rfl) (fun Kc hK => ?_)
                      refine step_pushL (by rfl) _ _ _ (by rfl) w.heap.size 72 3 32 elem_rule Fac.cells (some ⟨o3, 0, none⟩) n c3 rs (by rfl) OC_77.out g5 ⟨⟨#[]⟩, l, r⟩ #[.string .empty, .int .i64 l, .int .i64 r] 72 (0, 0) (by rfl) B5_77.out rfl rfl (one_fac _) (by omega) (by omega) (by unfold maxLen; omega) P_77.out.e.size ?_
                      intro A6 c6 x78 own6 hg6 at6
                      have P_78 := Lib.hid (P_77.out.keepAt hg6 (show w.heap.size + 2 ≤ o3 by omega) (by omega))
                      have BR_78 := Lib.hid (BR_77.out.grown hg6 (by intro e; have e2 : some gr = some o3 := e; injection e2 with e2; omega))
                      have BL_78 := Lib.hid (BL_77.out.grown hg6 (by intro e; have e2 : some g8 = some o3 := e; injection e2 with e2; omega))
                      have O6_78 := Lib.hid own6
                      refine hK.out _ _ (fun h => absurd h (by decide)) ?_
                      clear hK Kc own6 hg6 at6
                      try simp only [List.getElem_toArray, List.getElem_cons_zero, List.getElem_cons_succ, Act.put, List.setIfInBounds_toArray, List.set_cons_zero, List.set_cons_succ]
                      clear P_77 BR_77 OC_77 B5_77 BL_77
                      refine wpAnyN_next (i := 7) rfl (by kernel_rfl) (fun Kc hK => ?_)
                      go_simp
                      refine hK.out _ _ (fun h => absurd h (by decide)) ?_
                      clear hK Kc
                      try simp only [List.getElem_toArray, List.getElem_cons_zero, List.getElem_cons_succ, Act.put, List.setIfInBounds_toArray, List.set_cons_zero, List.set_cons_succ]
                      refine wpAnyN_next (i := 9) rfl (by kernel_rfl) (fun Kc hK => ?_)
                      have b9c := BL_78.out.cell 0
                      have b9f := BL_78.out.frozen
                      have b9l := BL_78.out.lt
                      go_simp
                      have P_80 := Lib.hid (P_78.out.keepAt (gb_set x78 g8 0 (.slice A6 (n + 1) c6)) (show w.heap.size + 2 ≤ g8 by omega) (by omega))
                      have BL_80 := Lib.hid (BL_78.out.set_ 0 (.slice A6 (n + 1) c6))
                      have O6_80 := Lib.hid (own_kept' (i := 0) O6_78.out BL_78.out (by decide) (.slice A6 (n + 1) c6))
                      refine hK.out _ _ (fun h => absurd h (by decide)) ?_
                      clear hK Kc b9c b9f b9l
                      try simp only [List.getElem_toArray, List.getElem_cons_zero, List.getElem_cons_succ, Act.put, List.setIfInBounds_toArray, List.set_cons_zero, List.set_cons_succ]
                      refine wpAnyN_done (by kernel_rfl) ?_ _
                      go_wp2_with fail
                      go_meet
                      exact ⟨g8, A6, c6, rfl, P_80, BL_80, O6_80, Lib.hid g8_low⟩
                    · intro Kc hK
                      go_simp
                      have P_81 := Lib.hid (P_75.out.alloc (.cells #[.string .empty, .int .i64 l, .int .i64 r] 72))
                      have BR_81 := Lib.hid (BR_75.out.alloc (.cells #[.string .empty, .int .i64 l, .int .i64 r] 72))
                      have OE_81 := Lib.hid (OE_75.out.alloc (.cells #[.string .empty, .int .i64 l, .int .i64 r] 72))
                      have BL_81 := Lib.hid (BL_75.out.alloc (.cells #[.string .empty, .int .i64 l, .int .i64 r] 72))
                      have B5_81 := Lib.hid (Blk.new x75 72 #[.string .empty, .int .i64 l, .int .i64 r])
                      have ng5_gr : gr < x75.heap.size := BR_75.out.lt
                      have ng5_ga : ga < x75.heap.size := (P_75.out.q.lt ga rfl).2
                      have ng5_e0 : e0 < x75.heap.size := (OE_75.out.lt e0 rfl).2
                      have ng5_g8 : g8 < x75.heap.size := BL_75.out.lt
                      have g5_low : w.heap.size + 1 < x75.heap.size := P_75.out.x.lt
                      refine hK.out _ _ (fun _ => ⟨P_81.out.x.cell 0, BR_81.out.three⟩) ?_
                      clear hK Kc
                      try simp only [List.getElem_toArray, List.getElem_cons_zero, List.getElem_cons_succ, Act.put, List.setIfInBounds_toArray, List.set_cons_zero, List.set_cons_succ]
                      generalize x75.heap.size = g5 at *
                      generalize x75.alloc (.cells #[.string .empty, .int .i64 l, .int .i64 r] 72) = x81 at *
                      clear P_75 BR_75 OE_75 BL_75
                      refine wpAnyN_next (i := 3) rfl (by kernel_rfl) (fun Kc hK => ?_)
                      refine step_copyL (by rfl) _ _ _ (by rfl) w.heap.size 72 3 32 elem_rule Fac.cells e0 (by rfl) OE_81.out ⟨ga, 0, none⟩ n c rs (by rfl) HLn.out hn0 (Hnews.out _ P_81.out) (fun x _ => fac_len x) (fun x _ => one_fac x) (by omega) (by omega) (by unfold maxLen; omega) P_81.out.e.size ?_
                      intro A3 c3 x82 own3 hg3 at3
                      obtain ⟨o3, cap3, hv3, _, _⟩ := own3.form hn0
                      obtain rfl : A3 = some ⟨o3, 0, none⟩ := by injection hv3
                      have h3_gr : gr < x81.heap.size := BR_81.out.lt
                      have h3_ga : ga < x81.heap.size := (P_81.out.q.lt ga rfl).2
                      have h3_g5 : g5 < x81.heap.size := B5_81.out.lt
                      have h3_g8 : g8 < x81.heap.size := BL_81.out.lt
                      have at3 : o3 = e0 ∨ o3 = x81.heap.size := at3.imp (fun h => Option.some.inj h) (fun h => Option.some.inj h)
                      have o3_low : w.heap.size + 1 < o3 := by have h := P_81.out.x.lt; rcases at3 with h3 | h3 <;> omega
                      have o3_gr : gr ≠ o3 := by rcases at3 with h3 | h3 <;> omega
                      have o3_ga : ga ≠ o3 := by rcases at3 with h3 | h3 <;> omega
                      have o3_g5 : g5 ≠ o3 := by rcases at3 with h3 | h3 <;> omega
                      have o3_g8 : g8 ≠ o3 := by rcases at3 with h3 | h3 <;> omega
                      have P_82 := Lib.hid (P_81.out.keepAt hg3 (show w.heap.size + 2 ≤ e0 by omega) (by omega))
                      have BR_82 := Lib.hid (BR_81.out.grown hg3 (by intro e; injection e with e; omega))
                      have B5_82 := Lib.hid (B5_81.out.grown hg3 (by intro e; injection e with e; omega))
                      have BL_82 := Lib.hid (BL_81.out.grown hg3 (by intro e; injection e with e; omega))
                      have OC_82 := Lib.hid own3
                      refine hK.out _ _ (fun _ => ⟨P_82.out.x.cell 0, BR_82.out.three⟩) ?_
                      clear hK Kc own3 hg3 at3 hv3 h3_gr h3_ga h3_g5 h3_g8
                      try simp only [List.getElem_toArray, List.getElem_cons_zero, List.getElem_cons_succ, Act.put, List.setIfInBounds_toArray, List.set_cons_zero, List.set_cons_succ]
                      clear P_81 BR_81 OE_81 B5_81 BL_81
                      refine wpAnyN_next (i := 6) rfl (by kernel_rfl) (fun Kc hK => ?_)
                      refine step_pushL (by rfl) _ _ _ (by rfl) w.heap.size 72 3 32 elem_rule Fac.cells (some ⟨o3, 0, none⟩) n c3 rs (by rfl) OC_82.out g5 ⟨⟨#[]⟩, l, r⟩ #[.string .empty, .int .i64 l, .int .i64 r] 72 (0, 0) (by rfl) B5_82.out rfl rfl (one_fac _) (by omega) (by omega) (by unfold maxLen; omega) P_82.out.e.size ?_
                      intro A6 c6 x83 own6 hg6 at6
                      have P_83 := Lib.hid (P_82.out.keepAt hg6 (show w.heap.size + 2 ≤ o3 by omega) (by omega))
                      have BR_83 := Lib.hid (BR_82.out.grown hg6 (by intro e; have e2 : some gr = some o3 := e; injection e2 with e2; omega))
                      have BL_83 := Lib.hid (BL_82.out.grown hg6 (by intro e; have e2 : some g8 = some o3 := e; injection e2 with e2; omega))
                      have O6_83 := Lib.hid own6
                      refine hK.out _ _ (fun h => absurd h (by decide)) ?_
                      clear hK Kc own6 hg6 at6
                      try simp only [List.getElem_toArray, List.getElem_cons_zero, List.getElem_cons_succ, Act.put, List.setIfInBounds_toArray, List.set_cons_zero, List.set_cons_succ]
                      clear P_82 BR_82 OC_82 B5_82 BL_82
                      refine wpAnyN_next (i := 7) rfl (by kernel_rfl) (fun Kc hK => ?_)
                      go_simp
                      refine hK.out _ _ (fun h => absurd h (by decide)) ?_
                      clear hK Kc
                      try simp only [List.getElem_toArray, List.getElem_cons_zero, List.getElem_cons_succ, Act.put, List.setIfInBounds_toArray, List.set_cons_zero, List.set_cons_succ]
                      refine wpAnyN_next (i := 9) rfl (by kernel_rfl) (fun Kc hK => ?_)
                      have b9c := BL_83.out.cell 0
                      have b9f := BL_83.out.frozen
                      have b9l := BL_83.out.lt
                      go_simp
                      have P_85 := Lib.hid (P_83.out.keepAt (gb_set x83 g8 0 (.slice A6 (n + 1) c6)) (show w.heap.size + 2 ≤ g8 by omega) (by omega))
                      have BL_85 := Lib.hid (BL_83.out.set_ 0 (.slice A6 (n + 1) c6))
                      have O6_85 := Lib.hid (own_kept' (i := 0) O6_83.out BL_83.out (by decide) (.slice A6 (n + 1) c6))
                      refine hK.out _ _ (fun h => absurd h (by decide)) ?_
                      clear hK Kc b9c b9f b9l
                      try simp only [List.getElem_toArray, List.getElem_cons_zero, List.getElem_cons_succ, Act.put, List.setIfInBounds_toArray, List.set_cons_zero, List.set_cons_succ]
                      refine wpAnyN_done (by kernel_rfl) ?_ _
                      go_wp2_with fail
                      go_meet
                      exact ⟨g8, A6, c6, rfl, P_85, BL_85, O6_85, Lib.hid g8_low⟩
                  · intro Kc hK
                    go_simp
                    have P_86 := Lib.hid (P_74.out.alloc (.cells #[.string .empty, .int .i64 l, .int .i64 r] 72))
                    have BR_86 := Lib.hid (BR_74.out.alloc (.cells #[.string .empty, .int .i64 l, .int .i64 r] 72))
                    have BL_86 := Lib.hid (BL_74.out.alloc (.cells #[.string .empty, .int .i64 l, .int .i64 r] 72))
                    have B5_86 := Lib.hid (Blk.new x74 72 #[.string .empty, .int .i64 l, .int .i64 r])
                    have ng5_gr : gr < x74.heap.size := BR_74.out.lt
                    have ng5_ga : ga < x74.heap.size := (P_74.out.q.lt ga rfl).2
                    have ng5_g8 : g8 < x74.heap.size := BL_74.out.lt
                    have g5_low : w.heap.size + 1 < x74.heap.size := P_74.out.x.lt
                    refine hK.out _ _ (fun _ => ⟨P_86.out.x.cell 0, BR_86.out.three⟩) ?_
                    clear hK Kc
                    try simp only [List.getElem_toArray, List.getElem_cons_zero, List.getElem_cons_succ, Act.put, List.setIfInBounds_toArray, List.set_cons_zero, List.set_cons_succ]
                    generalize x74.heap.size = g5 at *
                    generalize x74.alloc (.cells #[.string .empty, .int .i64 l, .int .i64 r] 72) = x86 at *
                    clear P_74 BR_74 BL_74
                    refine wpAnyN_next (i := 0) rfl (by kernel_rfl) (fun Kc hK => ?_)
                    go_simp
                    have P_87 := Lib.hid (P_86.out.alloc (.cells #[] 72))
                    have BR_87 := Lib.hid (BR_86.out.alloc (.cells #[] 72))
                    have B5_87 := Lib.hid (B5_86.out.alloc (.cells #[] 72))
                    have BL_87 := Lib.hid (BL_86.out.alloc (.cells #[] 72))
                    have OE_87 := Lib.hid (World.ownsRow_made (base := w.heap.size) (e := 72) (size := 3) x86 #[] 0 (by have := P_86.out.x.lt; omega) (by unfold maxLen; omega) rfl)
                    have ne0_gr : gr < x86.heap.size := BR_86.out.lt
                    have ne0_ga : ga < x86.heap.size := (P_86.out.q.lt ga rfl).2
                    have ne0_g5 : g5 < x86.heap.size := B5_86.out.lt
                    have ne0_g8 : g8 < x86.heap.size := BL_86.out.lt
                    have e0_low : w.heap.size + 1 < x86.heap.size := P_86.out.x.lt
                    refine hK.out _ _ (fun _ => ⟨P_87.out.x.cell 0, BR_87.out.three⟩) ?_
                    clear hK Kc
                    try simp only [List.getElem_toArray, List.getElem_cons_zero, List.getElem_cons_succ, Act.put, List.setIfInBounds_toArray, List.set_cons_zero, List.set_cons_succ]
                    generalize x86.heap.size = e0 at *
                    generalize x86.alloc (.cells #[] 72) = x87 at *
                    clear P_86 BR_86 B5_86 BL_86
                    refine wpAnyN_next (i := 3) rfl (by kernel_rfl) (fun Kc hK => ?_)
                    refine step_copyL (by rfl) _ _ _ (by rfl) w.heap.size 72 3 32 elem_rule Fac.cells e0 (by rfl) OE_87.out ⟨ga, 0, none⟩ n c rs (by rfl) HLn.out hn0 (Hnews.out _ P_87.out) (fun x _ => fac_len x) (fun x _ => one_fac x) (by omega) (by omega) (by unfold maxLen; omega) P_87.out.e.size ?_
                    intro A3 c3 x88 own3 hg3 at3
                    obtain ⟨o3, cap3, hv3, _, _⟩ := own3.form hn0
                    obtain rfl : A3 = some ⟨o3, 0, none⟩ := by injection hv3
                    have h3_gr : gr < x87.heap.size := BR_87.out.lt
                    have h3_ga : ga < x87.heap.size := (P_87.out.q.lt ga rfl).2
                    have h3_g5 : g5 < x87.heap.size := B5_87.out.lt
                    have h3_g8 : g8 < x87.heap.size := BL_87.out.lt
                    have at3 : o3 = e0 ∨ o3 = x87.heap.size := at3.imp (fun h => Option.some.inj h) (fun h => Option.some.inj h)
                    have o3_low : w.heap.size + 1 < o3 := by have h := P_87.out.x.lt; rcases at3 with h3 | h3 <;> omega
                    have o3_gr : gr ≠ o3 := by rcases at3 with h3 | h3 <;> omega
                    have o3_ga : ga ≠ o3 := by rcases at3 with h3 | h3 <;> omega
                    have o3_g5 : g5 ≠ o3 := by rcases at3 with h3 | h3 <;> omega
                    have o3_g8 : g8 ≠ o3 := by rcases at3 with h3 | h3 <;> omega
                    have P_88 := Lib.hid (P_87.out.keepAt hg3 (show w.heap.size + 2 ≤ e0 by omega) (by omega))
                    have BR_88 := Lib.hid (BR_87.out.grown hg3 (by intro e; injection e with e; omega))
                    have B5_88 := Lib.hid (B5_87.out.grown hg3 (by intro e; injection e with e; omega))
                    have BL_88 := Lib.hid (BL_87.out.grown hg3 (by intro e; injection e with e; omega))
                    have OC_88 := Lib.hid own3
                    refine hK.out _ _ (fun _ => ⟨P_88.out.x.cell 0, BR_88.out.three⟩) ?_
                    clear hK Kc own3 hg3 at3 hv3 h3_gr h3_ga h3_g5 h3_g8
                    try simp only [List.getElem_toArray, List.getElem_cons_zero, List.getElem_cons_succ, Act.put, List.setIfInBounds_toArray, List.set_cons_zero, List.set_cons_succ]
                    clear P_87 BR_87 OE_87 B5_87 BL_87
                    refine wpAnyN_next (i := 6) rfl (by kernel_rfl) (fun Kc hK => ?_)
                    refine step_pushL (by rfl) _ _ _ (by rfl) w.heap.size 72 3 32 elem_rule Fac.cells (some ⟨o3, 0, none⟩) n c3 rs (by rfl) OC_88.out g5 ⟨⟨#[]⟩, l, r⟩ #[.string .empty, .int .i64 l, .int .i64 r] 72 (0, 0) (by rfl) B5_88.out rfl rfl (one_fac _) (by omega) (by omega) (by unfold maxLen; omega) P_88.out.e.size ?_
                    intro A6 c6 x89 own6 hg6 at6
                    have P_89 := Lib.hid (P_88.out.keepAt hg6 (show w.heap.size + 2 ≤ o3 by omega) (by omega))
                    have BR_89 := Lib.hid (BR_88.out.grown hg6 (by intro e; have e2 : some gr = some o3 := e; injection e2 with e2; omega))
                    have BL_89 := Lib.hid (BL_88.out.grown hg6 (by intro e; have e2 : some g8 = some o3 := e; injection e2 with e2; omega))
                    have O6_89 := Lib.hid own6
                    refine hK.out _ _ (fun h => absurd h (by decide)) ?_
                    clear hK Kc own6 hg6 at6
                    try simp only [List.getElem_toArray, List.getElem_cons_zero, List.getElem_cons_succ, Act.put, List.setIfInBounds_toArray, List.set_cons_zero, List.set_cons_succ]
                    clear P_88 BR_88 OC_88 B5_88 BL_88
                    refine wpAnyN_next (i := 7) rfl (by kernel_rfl) (fun Kc hK => ?_)
                    go_simp
                    refine hK.out _ _ (fun h => absurd h (by decide)) ?_
                    clear hK Kc
                    try simp only [List.getElem_toArray, List.getElem_cons_zero, List.getElem_cons_succ, Act.put, List.setIfInBounds_toArray, List.set_cons_zero, List.set_cons_succ]
                    refine wpAnyN_next (i := 9) rfl (by kernel_rfl) (fun Kc hK => ?_)
                    have b9c := BL_89.out.cell 0
                    have b9f := BL_89.out.frozen
                    have b9l := BL_89.out.lt
                    go_simp
                    have P_91 := Lib.hid (P_89.out.keepAt (gb_set x89 g8 0 (.slice A6 (n + 1) c6)) (show w.heap.size + 2 ≤ g8 by omega) (by omega))
                    have BL_91 := Lib.hid (BL_89.out.set_ 0 (.slice A6 (n + 1) c6))
                    have O6_91 := Lib.hid (own_kept' (i := 0) O6_89.out BL_89.out (by decide) (.slice A6 (n + 1) c6))
                    refine hK.out _ _ (fun h => absurd h (by decide)) ?_
                    clear hK Kc b9c b9f b9l
                    try simp only [List.getElem_toArray, List.getElem_cons_zero, List.getElem_cons_succ, Act.put, List.setIfInBounds_toArray, List.set_cons_zero, List.set_cons_succ]
                    refine wpAnyN_done (by kernel_rfl) ?_ _
                    go_wp2_with fail
                    go_meet
                    exact ⟨g8, A6, c6, rfl, P_91, BL_91, O6_91, Lib.hid g8_low⟩
              case rest =>
                obtain ⟨g8, A6, c6, rfl, P2, BL2, O2, Hlow⟩ := hcut
                clear P BR
                have hwf2 := Lib.hid (wf_snoc' HOk.out.wf l0 (by rw [HLn.out]; exact l1) r0 (by rw [HLn.out]; exact r1))
                have hl2 := Lib.hid (show (rs ++ [(⟨.empty, l, r⟩ : Fac)]).length = n + 1 by rw [List.length_append, HLn.out]; rfl)
                generalize rs ++ [(⟨.empty, l, r⟩ : Fac)] = rs2 at *
                have hgk := dg_gok hwf2.out (by rw [hl2.out]; omega)
                obtain ⟨ls2, hls2⟩ := Option.isSome_iff_exists.1 hgk
                have Hls := Lib.hid hls2
                have R2 := Lib.hid (Rd.of_own (fun x _ => fac_len x) hl2.out O2.out)
                have OKC := Lib.hid (l02Ok_any g8 A6 (n + 1) c6 rs2 wc BL2.out.lt (BL2.out.cell 0) (by omega) R2.out (wf_sz hwf2.out) true hgk)
                have LEC := Lib.hid (fun W (hb : Below wc.heap.size wc W) => l02Length_any g8 A6 (n + 1) c6 rs2 W (by have := BL2.out.lt; have := hb.size; omega) ((BL2.out.next hb).cell 0) (by omega) (R2.out.next hb) (wf_sz hwf2.out) ls2 (gOk_lens hls2).1)
                have HLast := Lib.hid (last_word (gOk_lens hls2).1)
                have hw1 : (wdN rs2).length ≤ 2 ^ 14 := by
                  have h1 := wds_pow hwf2.out n (by rw [hl2.out]; omega)
                  have h2 : 2 ^ n ≤ 2 ^ 14 := Nat.pow_le_pow_right (by omega) (by omega)
                  unfold wdN
                  rw [if_neg (by intro e; have := hl2.out; rw [e] at this; simp at this), hl2.out, Nat.add_sub_cancel]
                  omega
                rw [HLast.out] at LEC
                obtain ⟨wl, hwl⟩ : ∃ wl, (wdN rs2).length = wl := ⟨_, rfl⟩
                rw [hwl] at LEC hw1
                have HWl := Lib.hid hwl
                clear hls2 hgk hwl l0 l1 r0 r1
                go_wp2_with fail
                refine OKC.out.mono ?_
                rintro e wk ⟨rfl, hbk⟩
                have Pk := Lib.hid (P2.out.next hbk)
                have BLk := Lib.hid (BL2.out.next hbk)
                have Ok_ := Lib.hid (own_next O2.out hbk)
                have HBk := Lib.hid hbk
                clear hbk P2 BL2 O2
                go_wp2_with fail
                refine (LEC.out wk HBk.out).mono ?_
                rintro e wn ⟨rfl, hbn⟩
                have Pn := Lib.hid (Pk.out.next hbn)
                have BLn := Lib.hid (BLk.out.next hbn)
                have On := Lib.hid (own_next Ok_.out hbn)
                have g0 := BLn.out.cell 0
                have gl := BLn.out.lt
                have x0 := Pn.out.x.cell 0
                have xf := Pn.out.x.frozen
                have xl := Pn.out.x.lt
                have r0 := Pn.out.r.cell 0
                have rf := Pn.out.r.frozen
                have rl := Pn.out.r.lt
                clear hbn Pk BLk Ok_ HBk
                by_cases hml : most < (wl : Int)
                · have FIN := Lib.hid (Pn.out.done HLn.out)
                  have x5 := (Pn.out.r.set_ 0 (.slice (some ⟨ga, 0, none⟩) n c)).cell 0
                  go_wp2_with fail
                  refine bodyPost_ret (v := .agg #[.slice (some ⟨ga, 0, none⟩) n c]) (by simp [results, Tryz.results20, go_sem]; rw [x5]; rfl) rfl ?_
                  exact ⟨_, c, rs, by rw [HLn.out], HOk.out, FIN.out.1, FIN.out.2.1.mono (by omega), FIN.out.2.2⟩
                · have Pp := Lib.hid (Pn.out.put On.out)
                  have HOk2 := Lib.hid (show DgOk rs2 most from ⟨hwf2.out, by rw [hl2.out]; omega, by rw [hl2.out]; omega, by rw [HWl.out]; omega⟩)
                  go_wp2_with fail
                  go_roundw
                  case rel => exact ⟨z - 1, A6, n + 1, c6, K3, rs2, by go_num, by omega, by omega, by omega, hl2, HOk2, Pp⟩
                  case measure => simp [intOf]; omega
        · have z1 : ¬ (0 : Int) < (z : Int) := by omega
          have r0 := P.out.r.cell 0
          have rf := P.out.r.frozen
          have rl := P.out.r.lt
          have FIN := Lib.hid (P.out.done HLn.out)
          have x5 := (P.out.r.set_ 0 (.slice A n c)).cell 0
          go_wp2_with fail
          refine bodyPost_ret (v := .agg #[.slice A n c]) (by simp [results, Tryz.results20, go_sem]; rw [x5]; rfl) rfl ?_
          exact ⟨_, c, rs, by rw [HLn.out], HOk.out, FIN.out.1, FIN.out.2.1.mono (by omega), FIN.out.2.2⟩
end Go.Proofs.YtmdmgndhapdmgaaGreat


/-
  Grammars joined, turned and repeated: the plain part.
-/
namespace Go.Proofs.YtmdmgndhapdmgaaGreat

theorem wdN_pos {rs : List Fac} (h : 0 < rs.length) : wdN rs = (wds rs).getD (rs.length - 1) [] := by
  unfold wdN
  rw [if_neg (by intro e; rw [e] at h; simp at h)]
def joinL (gs hs : List Fac) : List Fac :=
  if gs.length = 0 then hs else if hs.length = 0 then gs else (gs ++ raiseL gs.length hs) ++ [⟨⟨#[]⟩, (gs.length : Int) - 1, (gs.length : Int) + hs.length - 1⟩]
theorem join_wf {gs hs : List Fac} (hg : WF gs) (hh : WF hs) : WF (joinL gs hs) := by
  unfold joinL
  split
  · exact hh
  · split
    · exact hg
    · exact wf_snoc (wf_raise hg hh) ⟨by omega, by simp only [List.length_append, raiseL_len]; omega⟩ ⟨by omega, by simp only [List.length_append, raiseL_len]; omega⟩
/-- one digit more of the number of times -/
def powS (root : Int) (rs : List Fac) (b : Bool) : List Fac :=
  if b then (rs ++ [⟨⟨#[]⟩, (rs.length : Int) - 1, (rs.length : Int) - 1⟩]) ++ [⟨⟨#[]⟩, (rs.length : Int), root⟩] else rs ++ [⟨⟨#[]⟩, (rs.length : Int) - 1, (rs.length : Int) - 1⟩]
def rep (u : List Nat) : Nat → List Nat
  | 0 => []
  | n + 1 => rep u n ++ u
theorem rep_add (u : List Nat) (m : Nat) : ∀ n, rep u (m + n) = rep u m ++ rep u n
  | 0 => by simp [rep]
  | n + 1 => by
    show rep u (m + n) ++ u = rep u m ++ (rep u n ++ u)
    rw [rep_add u m n, List.append_assoc]
/-- what holds under way: n times the word -/
structure PowI (gs rs : List Fac) (n : Nat) : Prop where
  wf : WF rs
  pre : ∃ e, rs = gs ++ e
  pos : 0 < gs.length
  w : wdN rs = rep (wdN gs) n
theorem PowI.first {gs : List Fac} (hg : WF gs) (h0 : 0 < gs.length) : PowI gs gs 1 := ⟨hg, ⟨[], by simp⟩, h0, by simp [rep]⟩
theorem PowI.step {gs rs : List Fac} {n : Nat} (h : PowI gs rs n) (b : Bool) : PowI gs (powS ((gs.length : Int) - 1) rs b) (2 * n + b.toNat) := by
  obtain ⟨e, he⟩ := h.pre
  have hp := h.pos
  have hl : gs.length ≤ rs.length := by rw [he, List.length_append]; omega
  have ha : 0 ≤ (rs.length : Int) - 1 ∧ (rs.length : Int) - 1 < rs.length := ⟨by omega, by omega⟩
  have w1 := wf_snoc h.wf ha ha
  have e1 := wds_snoc (rs := rs) ha ha h.wf
  have hlast : (wds rs).getD ((rs.length : Int) - 1).toNat [] = rep (wdN gs) n := by rw [← h.w, wdN_pos (by omega), show ((rs.length : Int) - 1).toNat = rs.length - 1 by omega]
  rw [hlast, ← rep_add, show n + n = 2 * n by omega] at e1
  cases b with
  | false =>
    refine ⟨w1, ⟨e ++ [⟨⟨#[]⟩, (rs.length : Int) - 1, (rs.length : Int) - 1⟩], by show rs ++ _ = _; rw [he, List.append_assoc]⟩, hp, ?_⟩
    show wdN (rs ++ [_]) = _
    rw [wdN_pos (by simp), List.length_append, List.length_singleton, Nat.add_sub_cancel, e1]; rfl
  | true =>
    have hl2 : (rs ++ [(⟨⟨#[]⟩, (rs.length : Int) - 1, (rs.length : Int) - 1⟩ : Fac)]).length = rs.length + 1 := by simp
    have hb1 : 0 ≤ (rs.length : Int) ∧ (rs.length : Int) < (rs ++ [(⟨⟨#[]⟩, (rs.length : Int) - 1, (rs.length : Int) - 1⟩ : Fac)]).length := ⟨by omega, by rw [hl2]; omega⟩
    have hb2 : 0 ≤ (gs.length : Int) - 1 ∧ (gs.length : Int) - 1 < (rs ++ [(⟨⟨#[]⟩, (rs.length : Int) - 1, (rs.length : Int) - 1⟩ : Fac)]).length := ⟨by omega, by rw [hl2]; omega⟩
    refine ⟨wf_snoc w1 hb1 hb2, ⟨e ++ [⟨⟨#[]⟩, (rs.length : Int) - 1, (rs.length : Int) - 1⟩] ++ [⟨⟨#[]⟩, (rs.length : Int), (gs.length : Int) - 1⟩], by show (rs ++ _) ++ _ = _; rw [he]; simp only [List.append_assoc]⟩, hp, ?_⟩
    have e2 := wds_snoc (rs := rs ++ [(⟨⟨#[]⟩, (rs.length : Int) - 1, (rs.length : Int) - 1⟩ : Fac)]) hb1 hb2 w1
    show wdN ((rs ++ [_]) ++ [_]) = _
    rw [wdN_pos (by simp), List.length_append, List.length_singleton, Nat.add_sub_cancel, e2, Int.toNat_natCast, e1]
    have e3 : (wds (rs ++ [(⟨⟨#[]⟩, (rs.length : Int) - 1, (rs.length : Int) - 1⟩ : Fac)])).getD ((gs.length : Int) - 1).toNat [] = wdN gs := by
      rw [wds_pre _ _ (by omega), he, wds_pre _ _ (by omega), wdN_pos hp, show ((gs.length : Int) - 1).toNat = gs.length - 1 by omega]
    rw [e3]; rfl
end Go.Proofs.YtmdmgndhapdmgaaGreat


/-
  The power of a grammar in the reference: what it hands back is valid.
-/
namespace Go.Proofs.YtmdmgndhapdmgaaGreat
open Go.RowKit

/-- a grammar that is right and has rules, in memory of its own -/
structure GrIn (w : World) (B : Nat) (A : Option Addr) (c : Nat) (rs : List Fac) : Prop where
  wf : WF rs
  pos : 0 < rs.length
  ok : (gOk rs).isSome = true
  own : w.ownsRow B 72 3 (.slice A rs.length c) rs.length (rs.flatMap Fac.cells)
/-- such a one and the code 0, or none and the code 3 -/
def GrCode (w : World) (e : Ending) (w' : World) : Prop :=
  (∃ A c rs, e = .returned (.tuple #[.agg #[.slice A rs.length c], .int .i64 0]) ∧ GrIn w' w.heap.size A c rs ∧ Below w.heap.size w w') ∨
  (e = .returned (.tuple #[.agg #[.slice none 0 0], .int .i64 3]) ∧ Below w.heap.size w w')
/-- a grammar under way: R is the result's block, G the grammar's -/
structure PwW (w W : World) (R G : Nat) (A : Option Addr) (n c : Nat) (rs : List Fac) : Prop where
  q : W.ownsRow w.heap.size 72 3 (.slice A n c) n (rs.flatMap Fac.cells)
  r : Blk W R 31 #[.slice none 0 0]
  x : Blk W G 31 #[.slice A n c]
  e : Below w.heap.size w W
  hr : w.heap.size ≤ R
  hg : R < G
section
variable {w W W' : World} {R G : Nat} {A : Option Addr} {n c : Nat} {rs : List Fac}
theorem PwW.next (h : PwW w W R G A n c rs) (hb : Below W.heap.size W W') : PwW w W' R G A n c rs := ⟨own_next h.q hb, h.r.next hb, h.x.next hb, h.e.trans (hb.mono h.e.size), h.hr, h.hg⟩
theorem PwW.alloc (h : PwW w W R G A n c rs) (o : Obj) : PwW w (W.alloc o) R G A n c rs := h.next ((Below.refl _ _).alloc (Nat.le_refl _) _)
theorem PwW.drew (h : PwW w W R G A n c rs) : PwW w W.drew R G A n c rs := h.next (Below.refl _ _).drew
theorem PwW.app {A' : Option Addr} {n' c' : Nat} {rs' : List Fac} (h : PwW w W R G A n c rs) (hq : W'.ownsRow w.heap.size 72 3 (.slice A' n' c') n' (rs'.flatMap Fac.cells)) (hg : W.grownBy W' (Value.slice A n c).ownBlock) :
    W'.ownsRow w.heap.size 72 3 (.slice A' n' c') n' (rs'.flatMap Fac.cells) ∧ Blk W' R 31 #[.slice none 0 0] ∧ Blk W' G 31 #[.slice A n c] ∧ Below w.heap.size w W' :=
  ⟨hq, h.r.grown hg (own_blk_ne h.q h.r (by decide)), h.x.grown hg (own_blk_ne h.q h.x (by decide)), h.e.grown hg h.e.size (own_ge h.q)⟩
theorem PwW.push {A' : Option Addr} {n' c' : Nat} {rs' : List Fac} (h : PwW w W R G A n c rs) (hq : W'.ownsRow w.heap.size 72 3 (.slice A' n' c') n' (rs'.flatMap Fac.cells)) (hg : W.grownBy W' (Value.slice A n c).ownBlock) :
    PwW w (W'.setCell ⟨G, 0, none⟩ (.slice A' n' c')) R G A' n' c' rs' := by
  obtain ⟨h1, h2, h3, h4⟩ := h.app hq hg
  have hg2 := gb_set W' G 0 (.slice A' n' c')
  have h0 := h.hg; have h00 := h.hr
  exact ⟨own_kept' hq h3 (by decide) _, h2.grown hg2 (by intro e; injection e with e; omega), h3.set_ 0 _, h4.setCell (by show w.heap.size ≤ G; omega) _, h00, h0⟩
end
theorem shr_pos {t : Int} {d : Nat} (h0 : 1 ≤ t) (h1 : t ≤ 1000000000000000) (h : 0 < t / 2 ^ d) : d < 50 := by
  rcases Nat.lt_or_ge d 50 with h2 | h2
  · exact h2
  · exfalso
    have h3 : (2 : Int) ^ 50 ≤ 2 ^ d := by have := Int.ofNat_le.2 (Nat.pow_le_pow_right (show 2 > 0 by decide) h2); rwa [Int.natCast_pow, Int.natCast_pow] at this
    have h4 : (2 : Int) ^ 50 = 1125899906842624 := by decide
    have : t / 2 ^ d = 0 := Int.ediv_eq_zero_of_lt (by omega) (by omega)
    omega
set_option maxHeartbeats 4000000 in
set_option maxRecDepth 100000 in
theorem powerG_any (A : Option Addr) (n c : Nat) (gs : List Fac) (t : Int) (w : World) (hn0 : 0 < n) (hn : n ≤ 400) (hr : Rd w w.heap.size A n 3 Fac.cells gs) (hwf : WF gs) (hg : (gOk gs).isSome = true) (ht0 : 1 ≤ t) (ht1 : t ≤ 1000000000000000) :
    Calls Tryz.prog 84 #[.agg #[.slice A n c], .int .i64 t] w (GrCode w) := by
  have hl := hr.len
  have HR := Lib.hid hr; clear hr
  have HG := Lib.hid hg; clear hg
  have HW := Lib.hid hwf; clear hwf
  have HO := Lib.hid (wf_sz HW.out)
  have hin : inB t 0 1000000000000000 = true := by unfold inB; simp; omega
  have Hin := Lib.hid hin; clear hin
  have HL := Lib.hid hl; clear hl
  go_enter Tryz.func84, Tryz.ntmps84
  go_wp2_with fail
  refine namedC fun w1 H1 => ?_
  have hb1 : Below w.heap.size w w1 := by rw [H1.out]; (repeat first | exact Below.refl _ _ | assumption | refine Below.drew ?_ | refine Below.alloc ?_ (by first | exact Nat.le_refl _ | (simp; done) | omega | (simp; omega)) _ | refine Below.setCell ?_ (by first | exact Nat.le_refl _ | (simp; done) | omega | (simp; omega)) _)
  have BG := Lib.hid (show Blk w1 w.heap.size 31 #[.slice A n c] by rw [H1.out]; exact (Blk.new _ _ _).alloc _)
  have BR := Lib.hid (show Blk w1 (w.heap.size + 1) 31 #[.slice none 0 0] by rw [H1.out]; simpa using Blk.new (w.alloc (.cells #[.slice A n c] 31)) 31 #[.slice none 0 0])
  clear H1
  refine (l02Ok_any w.heap.size A n c gs w1 BG.out.lt (BG.out.cell 0) (by omega) (HR.out.next hb1) HO.out true HG.out).mono ?_
  rintro e w2 ⟨rfl, hb2⟩
  have b2 := Lib.hid (hb1.trans (hb2.mono hb1.size))
  have BG2 := Lib.hid (BG.out.next hb2)
  have BR2 := Lib.hid (BR.out.next hb2)
  clear BG BR hb1 hb2
  go_wp2_with fail
  refine (specIn_any t 0 1000000000000000 true w2 Hin.out).mono ?_
  rintro e w3 ⟨rfl, hb3⟩
  have b3 := Lib.hid (b2.out.trans (hb3.mono b2.out.size))
  have BG3 := Lib.hid (BG2.out.next hb3)
  have BR3 := Lib.hid (BR2.out.next hb3)
  have g3 := BG3.out.cell 0
  have l3 := BG3.out.lt
  have n1 : ((n : Int) == 0) = false := by simp; omega
  have t1 : (t == 0) = false := by simp; omega
  clear BG2 BR2 hb3 b2
  go_wp2_with fail
  refine (l02Own_any w.heap.size A n c gs w3 l3 g3 (by omega) hn0 (HR.out.next b3.out)).mono ?_
  rintro e w4 ⟨A4, c4, rfl, own4, hb4⟩
  rw [HL.out] at own4 ⊢
  have b4 := Lib.hid (b3.out.trans (hb4.mono b3.out.size))
  have O4 := Lib.hid (own4.mono b3.out.size)
  have BG4 := Lib.hid (BG3.out.next hb4)
  have BR4 := Lib.hid (BR3.out.next hb4)
  clear own4 hb4 b3 BG3 BR3 g3 l3
  have P5 := Lib.hid (show PwW w (w4.alloc (.cells #[.slice A4 n c4] 31)) (w.heap.size + 1) w4.heap.size A4 n c4 gs from
    ⟨O4.out.alloc _, BR4.out.alloc _, Blk.new _ _ _, b4.out.alloc b4.out.size _, by omega, BR4.out.lt⟩)
  have BG5 := BG4.out.alloc (.cells #[.slice A4 n c4] 31)
  have g5 := BG5.cell 0
  have l5 := BG5.lt
  clear BG5
  go_wp2_with fail
  go_loopw [8] (fun d_ w' => ∃ d : Nat, d_ = .int .i64 d ∧ d ≤ 50 ∧ Hid (PwW w w' (w.heap.size + 1) w4.heap.size A4 n c4 gs)) (fun d_ _ => 50 - (intOf d_).toNat)
  case atStart => exact ⟨0, rfl, by omega, P5⟩
  case round =>
    obtain ⟨d, rfl, hd, P⟩ := hrel
    clear P5 g5 l5
    by_cases hpos : 0 < t / 2 ^ d
    · have hd5 := shr_pos ht0 ht1 hpos
      have um : IntKind.i64.wrap ((d : Int) + 1) = ((d + 1 : Nat) : Int) := by rw [IntWalk.i64_in _ (by omega)]; omega
      go_wp2_with fail
      go_roundw
      case rel => exact ⟨d + 1, by go_num, by omega, P⟩
      case measure => simp [intOf]; omega
    · have um : IntKind.i64.wrap ((d : Int) - 2) = (d : Int) - 2 := by rw [IntWalk.i64_in _ (by omega)]
      go_wp2_with fail
      generalize w4.heap.size = G at *
      go_loopw [9] (fun k_ w' => ∃ (k : Int) (A : Option Addr) (n' c' : Nat) (cur : List Fac), k_ = .int .i64 k ∧ -2 ≤ k ∧ k ≤ 48 ∧ n ≤ n' ∧ (n' : Int) ≤ n + 2 * (48 - k) ∧ Hid (cur.length = n') ∧ Hid (WF cur) ∧ Hid (PwW w w' (w.heap.size + 1) G A n' c' cur)) (fun k_ _ => (intOf k_ + 1).toNat)
      case atStart => exact ⟨(d : Int) - 2, A4, n, c4, gs, rfl, by omega, by omega, by omega, by omega, HL, HW, P⟩
      case round =>
        obtain ⟨k, A9, n', c', cur, rfl, hk0, hk1, hn1, hn2, hcl, hcw, Q⟩ := hrel
        clear P
        have d0 := Q.out.x.cell 0
        have dl := Q.out.x.lt
        by_cases hk : 0 ≤ k
        · have k1 := decide_eq_true hk
          have kk : ((k.toNat : Nat) : Int) = k := by omega
          have ua : IntKind.i64.wrap ((n' : Int) - 1) = (n' : Int) - 1 := by rw [IntWalk.i64_in _ (by omega)]
          have uk : IntKind.i64.wrap (k - 1) = k - 1 := by rw [IntWalk.i64_in _ (by omega)]
          have Q3 := Lib.hid (Q.out.alloc (.cells #[.string ⟨#[]⟩, .int .i64 ((n' : Int) - 1), .int .i64 ((n' : Int) - 1)] 72))
          have BN := Lib.hid (Blk.new wr 72 #[.string ⟨#[]⟩, .int .i64 ((n' : Int) - 1), .int .i64 ((n' : Int) - 1)])
          have w1 := Lib.hid (wf_snoc hcw.out (a := (n' : Int) - 1) (b := (n' : Int) - 1) ⟨by omega, by rw [hcl.out]; omega⟩ ⟨by omega, by rw [hcl.out]; omega⟩)
          have e1 := Lib.hid (show (cur ++ [(⟨⟨#[]⟩, (n' : Int) - 1, (n' : Int) - 1⟩ : Fac)]).length = n' + 1 by rw [List.length_append, hcl.out]; rfl)
          have ub : IntKind.i64.wrap ((n' : Int) - 1 + 1) = (n' : Int) := by rw [IntWalk.i64_in _ (by omega)]; omega
          rcases hbt : (bits BinOp.and IntKind.i64 (t / 2 ^ k.toNat) 1 == 1) with _ | _
          · go_wp2_with
              (at_builtin
               refine wpList_pushG rfl _ _ _ rfl w.heap.size 72 3 32 elem_rule Fac.cells A9 n' c' cur rfl Q3.out.q wr.heap.size ⟨⟨#[]⟩, (n' : Int) - 1, (n' : Int) - 1⟩ #[.string ⟨#[]⟩, .int .i64 ((n' : Int) - 1), .int .i64 ((n' : Int) - 1)] 72 (0, 0) rfl BN.out rfl rfl (one_fac _) (by omega) (by omega) (by unfold maxLen; omega) (by have := Q3.out.e.size; omega) ?_
               intro A8 c8 w8 own8 hg8 hat8
               have Q8 := Lib.hid (Q3.out.push own8 hg8)
               have G8 := (Q3.out.app own8 hg8).2.2.1
               have f8 := G8.frozen
               have d8 := G8.cell 0
               have l8 := G8.lt
               clear own8 hg8 hat8 G8)
            go_roundw
            case rel => exact ⟨k - 1, A8, n' + 1, c8, _, by go_num, by omega, by omega, by omega, by omega, e1, w1, Q8⟩
            case measure => simp [intOf]; omega
          · have w2 := Lib.hid (wf_snoc w1.out (a := (n' : Int)) (b := (n : Int) - 1) ⟨by omega, by rw [e1.out]; omega⟩ ⟨by omega, by rw [e1.out]; omega⟩)
            have e2 := Lib.hid (show ((cur ++ [(⟨⟨#[]⟩, (n' : Int) - 1, (n' : Int) - 1⟩ : Fac)]) ++ [(⟨⟨#[]⟩, (n' : Int), (n : Int) - 1⟩ : Fac)]).length = n' + 2 by rw [List.length_append, e1.out]; rfl)
            go_wp2_with
              (at_builtin
               first
                 | (refine wpList_pushG rfl _ _ _ rfl w.heap.size 72 3 32 elem_rule Fac.cells A9 n' c' cur rfl Q3.out.q wr.heap.size ⟨⟨#[]⟩, (n' : Int) - 1, (n' : Int) - 1⟩ #[.string ⟨#[]⟩, .int .i64 ((n' : Int) - 1), .int .i64 ((n' : Int) - 1)] 72 (0, 0) rfl BN.out rfl rfl (one_fac _) (by omega) (by omega) (by unfold maxLen; omega) (by have := Q3.out.e.size; omega) ?_
                    intro A8 c8 w8 own8 hg8 hat8
                    have Q8 := Lib.hid (Q3.out.push own8 hg8)
                    have G8 := (Q3.out.app own8 hg8).2.2.1
                    have f8 := G8.frozen
                    have d8 := G8.cell 0
                    have l8 := G8.lt
                    clear own8 hg8 hat8 G8)
                 | (refine wpList_pushG rfl _ _ _ rfl w.heap.size 72 3 32 elem_rule Fac.cells A8 (n' + 1) c8 (cur ++ [⟨⟨#[]⟩, (n' : Int) - 1, (n' : Int) - 1⟩]) rfl ((Q8.out.alloc (.cells #[.string ⟨#[]⟩, .int .i64 (n' : Int), .int .i64 ((n : Int) - 1)] 72)).q) w8.heap.size ⟨⟨#[]⟩, (n' : Int), (n : Int) - 1⟩ #[.string ⟨#[]⟩, .int .i64 (n' : Int), .int .i64 ((n : Int) - 1)] 72 (0, 0) rfl (by have h := Blk.new (w8.setCell ⟨G, 0, none⟩ (.slice A8 (n' + 1) c8)) 72 #[.string ⟨#[]⟩, .int .i64 (n' : Int), .int .i64 ((n : Int) - 1)]; rw [show (w8.setCell ⟨G, 0, none⟩ (.slice A8 (n' + 1) c8)).heap.size = w8.heap.size by simp] at h; exact h) rfl rfl (one_fac _) (by omega) (by omega) (by unfold maxLen; omega) (by have := (Q8.out.alloc (.cells #[.string ⟨#[]⟩, .int .i64 (n' : Int), .int .i64 ((n : Int) - 1)] 72)).e.size; omega) ?_
                    intro A7 c7 w7 own7 hg7 hat7
                    have Q7 := Lib.hid ((Q8.out.alloc (.cells #[.string ⟨#[]⟩, .int .i64 (n' : Int), .int .i64 ((n : Int) - 1)] 72)).push own7 hg7)
                    have G7 := ((Q8.out.alloc (.cells #[.string ⟨#[]⟩, .int .i64 (n' : Int), .int .i64 ((n : Int) - 1)] 72)).app own7 hg7).2.2.1
                    have f7 := G7.frozen
                    have d7 := G7.cell 0
                    have l7 := G7.lt
                    clear own7 hg7 hat7 G7))
            go_roundw
            case rel => exact ⟨k - 1, A7, n' + 2, c7, _, by go_num, by omega, by omega, by omega, by omega, e2, w2, Q7⟩
            case measure => simp [intOf]; omega
        · have k1 := decide_eq_false hk
          have T := Lib.hid (wf_sz hcw.out)
          have RR := Lib.hid (Rd.of_own (fun x _ => fac_len x) hcl.out Q.out.q)
          rcases hok : (gOk cur).isSome with _ | _
          · have Hok := Lib.hid hok; clear hok
            go_wp2_with fail
            refine (l02Told_no A9 n' c' cur wr (by omega) RR.out T.out Hok.out).mono ?_
            rintro e w7 ⟨rfl, hb7⟩
            have Q7 := Lib.hid (Q.out.next hb7)
            have r7 := Q7.out.r.cell 0
            have f7 := Q7.out.r.frozen
            have l7 := Q7.out.r.lt
            have B8 := Q7.out.r.set_ 0 (.slice none 0 0)
            have x8 : (w7.setCell ⟨w.heap.size + 1, 0, none⟩ (.slice none 0 0)).cell? ⟨w.heap.size + 1, 0, none⟩ = some (.slice none 0 0) := by rw [B8.cell 0]; rfl
            have b8 := Q7.out.e.setCell (p := ⟨w.heap.size + 1, 0, none⟩) (by simp) (.slice none 0 0)
            clear B8 d0 dl
            go_wp2_with fail
            exact bodyPost_ret (v := .tuple #[.agg #[.slice none 0 0], .int .i64 3]) (by simp [results, Tryz.results84, go_sem, x8]) rfl (.inr ⟨rfl, b8⟩)
          · have Hok := Lib.hid hok; clear hok
            go_wp2_with fail
            refine (l02Told_yes A9 n' c' cur wr (by omega) RR.out T.out Hok.out).mono ?_
            rintro e w7 ⟨rfl, hb7⟩
            have Q7 := Lib.hid (Q.out.next hb7)
            have r7 := Q7.out.r.cell 0
            have f7 := Q7.out.r.frozen
            have l7 := Q7.out.r.lt
            have B8 := Q7.out.r.set_ 0 (.slice A9 n' c')
            have x8 : (w7.setCell ⟨w.heap.size + 1, 0, none⟩ (.slice A9 n' c')).cell? ⟨w.heap.size + 1, 0, none⟩ = some (.slice A9 n' c') := by rw [B8.cell 0]; rfl
            have b8 := Q7.out.e.setCell (p := ⟨w.heap.size + 1, 0, none⟩) (by simp) (.slice A9 n' c')
            have O8 := Lib.hid (own_kept' (i := 0) Q7.out.q Q7.out.r (by decide) (.slice A9 n' c'))
            have hcl' := hcl.out
            subst hcl'
            clear B8 d0 dl
            go_wp2_with fail
            exact bodyPost_ret (v := .tuple #[.agg #[.slice A9 cur.length c'], .int .i64 0]) (by simp [results, Tryz.results84, go_sem, x8]) rfl (.inl ⟨A9, c', cur, rfl, ⟨hcw.out, by omega, Hok.out, O8.out⟩, b8⟩)
end Go.Proofs.YtmdmgndhapdmgaaGreat
