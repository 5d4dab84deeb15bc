/-
  Texts of this claim, merged: PartM ClM CutS CutT Src Drawn Tail Stage Stage3 PlainI LvM LvW.
-/
import Derived.Test.YtgdbpkpaacbhhaaP3
import Derived.Deep.RegionHeld3
import Derived.Laws.BitsLemmas
import Derived.Laws.Bits64
import Derived.StillTail
import Derived.OrdersHeld
import Derived.Deep.RegionHeld
import Derived.Lib.Bytealg
import Derived.Deep.RegionWith
import Derived.Deep.RegionLaw
import Derived.Deep.DeepCutAuto


/-
  A part of a word: the grammar that the reference makes of it has the word; pieces have it too.
-/
namespace Go.Proofs.Ytgdbpkpaacbhhaa

/-- the words of some rules, one behind the other -/
def cat (rs : List Fac) (l : List Nat) : List Nat := l.flatMap fun k => (wds rs).getD k []
theorem cat_app (rs : List Fac) (a b : List Nat) : cat rs (a ++ b) = cat rs a ++ cat rs b := by simp [cat]
theorem cat_fold (rs : List Fac) : ∀ (t : List Nat) (s : List Nat), t.foldl (fun s k => wdG s ((wds rs).getD k []) default) s = s ++ cat rs t
  | [], s => by simp [cat]
  | k :: t, s => by
    rw [List.foldl_cons, cat_fold rs t]
    show (s ++ _) ++ _ = s ++ cat rs (k :: t)
    rw [List.append_assoc]; rfl
section
variable {rs : List Fac} {ls : List Int}
/-- the word of a rule between two places -/
theorem cov_word (hls : gLens rs [] = some ls) : ∀ (f r : Nat) (i j : Int), r < f → r < rs.length → 0 ≤ i → j ≤ ls.getD r 0 → cat rs (cov ls rs f r i j) = (((wds rs).getD r []).take j.toNat).drop i.toNat
  | 0, _, _, _, h, _, _, _ => by omega
  | f + 1, r, i, j, _, hr, hi, hj => by
    have hwf := wf_of hls
    have hlen := lens_word hls hr
    by_cases h1 : j ≤ i
    · rw [cov_no h1, List.drop_of_length_le (by rw [List.length_take]; omega)]; rfl
    by_cases h2 : i = 0 ∧ j = ls.getD r 0
    · rw [cov_one (by omega) h1 h2, List.take_of_length_le (by omega), h2.1]
      simp [cat]
    have gx : rs[r]? = some (rs[r]'hr) := List.getElem?_eq_getElem _
    have hne : ((wds rs).getD r []).length ≠ 1 := fun e => by omega
    rcases hwf r _ gx with ⟨h0, ha0, ha1, hb0, hb1⟩ | ⟨c, hc, hl, _, _⟩
    · have e : (wds rs).getD r [] = (wds rs).getD (rs[r]'hr).a.toNat [] ++ (wds rs).getD (rs[r]'hr).b.toNat [] := full_pair [] wdF wdG hwf gx h0
      have la := lens_word hls (show (rs[r]'hr).a.toNat < rs.length by omega)
      have lb := lens_word hls (show (rs[r]'hr).b.toNat < rs.length by omega)
      have lp := lens_pair hls gx h0
      rw [cov_go (by omega) h1 h2 gx, Nat.add_sub_cancel, cat_app, cov_word hls f _ _ _ (by omega) (by omega) hi (by omega), cov_word hls f _ _ _ (by omega) (by omega) (by omega) (by omega), e, List.take_append, List.drop_append, la]
      generalize (wds rs).getD (rs[r]'hr).a.toNat [] = u at *
      generalize (wds rs).getD (rs[r]'hr).b.toNat [] = v at *
      rw [List.length_take]
      by_cases hj2 : j ≤ (u.length : Int)
      · rw [show min j (u.length : Int) = j by omega]
        congr 1
        rw [show (j - (u.length : Int)).toNat = 0 by omega, show j.toNat - u.length = 0 by omega]; simp
      · rw [show min j (u.length : Int) = (u.length : Int) by omega, Int.toNat_natCast, List.take_of_length_le (Nat.le_refl _), List.take_of_length_le (show u.length ≤ j.toNat by omega)]
        congr 1
        rw [show (j - (u.length : Int)).toNat = j.toNat - u.length by omega, show (max (i - (u.length : Int)) 0).toNat = i.toNat - min j.toNat u.length by omega]
    · exfalso
      have e2 := full_let (d := []) (F := wdF) (G := wdG) gx (by rw [hl]; show (1 : Nat) ≠ 0; omega)
      apply hne
      show ((full [] wdF wdG rs).getD r []).length = 1
      rw [e2]; rfl
theorem covT_word (hls : gLens rs [] = some ls) (hll : ls.length = rs.length) {i j : Int} (hi : 0 ≤ i) (hij : i < j) (hj : j ≤ lastI ls) : cat rs (covT ls rs i j) = ((wdN rs).take j.toNat).drop i.toNat := by
  obtain ⟨hp, _⟩ := covT_ok hls hll hi hij hj
  have e : lastI ls = ls.getD (rs.length - 1) 0 := by unfold lastI; rw [hll]
  unfold covT
  rw [cov_word hls _ _ _ _ (by omega) (by omega) hi (by omega)]
  unfold wdN
  rw [if_neg (by intro e; rw [e] at hp; simp at hp)]
theorem cut_word (hls : gLens rs [] = some ls) (hll : ls.length = rs.length) {i j : Int} (hi : 0 ≤ i) (hij : i < j) (hj : j ≤ lastI ls) (hj2 : j ≤ 1000000000000000) :
    WF (cutL rs (covT ls rs i j)) ∧ 0 < (cutL rs (covT ls rs i j)).length ∧ wdN (cutL rs (covT ls rs i j)) = ((wdN rs).take j.toNat).drop i.toNat := by
  obtain ⟨hp, h1, h2, h3, h4⟩ := covT_ok hls hll hi hij hj
  obtain ⟨ls', hl'⟩ := cut_lens hls hll hi hij hj hj2
  have hw := covT_word hls hll hi hij hj
  rcases hc : covT ls rs i j with _ | ⟨c, t⟩
  · rw [hc] at h4; simp at h4
  · rw [hc] at hw h1 hl'
    have hpos : 0 < (cutL rs (c :: t)).length := by
      rcases t with _ | ⟨k, t⟩
      · show 0 < (rs.take (c + 1)).length
        rw [List.length_take]; omega
      · show 0 < (rs ++ chain rs.length c (k :: t)).length
        rw [List.length_append]; omega
    refine ⟨wf_of hl', hpos, ?_⟩
    rw [← hw]
    unfold wdN
    rw [if_neg (by intro e; rw [e] at hpos; simp at hpos)]
    have := cut_full [] wdF wdG (fun _ _ _ _ => rfl) (rs := rs) (c := c) (t := t) h1
    show (full [] wdF wdG (cutL rs (c :: t))).getD ((cutL rs (c :: t)).length - 1) [] = _
    rw [this]
    exact cat_fold rs t _
/-- the grammar of a part, if it is not too large -/
def ptL (rs : List Fac) (i j : Int) : List Fac := if i < j then trimL (cutL rs (covT ((gLens rs []).getD []) rs i j)) else []
theorem pt_word (hg : (gOk rs).isSome = true) {i j : Int} (hi : 0 ≤ i) (hij : i ≤ j) (hj : j ≤ (wdN rs).length) : WF (ptL rs i j) ∧ wdN (ptL rs i j) = ((wdN rs).take j.toNat).drop i.toNat ∧ (ptL rs i j).length ≤ 1200 := by
  obtain ⟨ls, hls⟩ := Option.isSome_iff_exists.1 hg
  obtain ⟨hls', hlen, hll⟩ := gOk_lens hls
  unfold ptL
  by_cases h : i < j
  · rw [if_pos h, hls']
    have hlast := last_word hls'
    have hb : lastI ls ≤ 1000000000000000 := by
      unfold lastI
      by_cases h0 : rs.length = 0
      · rw [List.eq_nil_of_length_eq_zero (hll.trans h0)]; show (0 : Int) ≤ _; omega
      · exact (lens_bound hls' (i := ls.length - 1) (by omega)).2
    obtain ⟨h1, h2, h3⟩ := cut_word hls' hll hi h (by omega) (by omega)
    obtain ⟨t1, t2, t3, t4⟩ := trim_word h1 h2
    obtain ⟨hp, k1, k2, _⟩ := covT_ok hls' hll hi h (by omega)
    have hcl := cut_len (rs := rs) (covT ls rs i j) k1
    exact ⟨t1, t4.trans h3, by show (trimL (cutL rs (covT ls rs i j))).length ≤ 1200; omega⟩
  · rw [if_neg h]
    refine ⟨fun k r hr => by simp at hr, ?_, by simp⟩
    rw [List.drop_of_length_le (by rw [List.length_take]; omega)]; rfl
end
end Go.Proofs.Ytgdbpkpaacbhhaa


/-
  Heights: what they are for the word.
-/
namespace Go.Proofs.Ytgdbpkpaacbhhaa

def ht (ws : List Int) (u : List Nat) : Int := (climL ws u).t
def lo (ws : List Int) (u : List Nat) : Int := (climL ws u).l
theorem ht_nil (ws : List Int) : ht ws [] = 0 := rfl
theorem ht_app (ws : List Int) (u v : List Nat) : ht ws (u ++ v) = ht ws u + ht ws v := by
  unfold ht; rw [climL_app]; rfl
theorem lo_app (ws : List Int) (u v : List Nat) : lo ws (u ++ v) = min (lo ws u) (ht ws u + lo ws v) := by
  unfold lo ht; rw [climL_app]; rfl
theorem lo_le (ws : List Int) (u : List Nat) (i : Nat) : lo ws u ≤ ht ws (u.take i) := by
  have e : lo ws u = lo ws (u.take i ++ u.drop i) := by rw [List.take_append_drop]
  rw [e, lo_app]
  have := (climL_ok ws (u.take i)).lt
  unfold lo ht at *
  omega
theorem hi_ge (ws : List Int) (u : List Nat) (i : Nat) : ht ws (u.take i) ≤ (climL ws u).h := by
  have e : climL ws u = climL ws (u.take i ++ u.drop i) := by rw [List.take_append_drop]
  rw [e, climL_app]
  have := (climL_ok ws (u.take i)).th
  unfold ht cj climG
  simp only
  omega
theorem lo_ge (ws : List Int) (u : List Nat) {z : Int} : ∀ n, n ≤ u.length → (∀ i, i ≤ n → z ≤ ht ws (u.take i)) → z ≤ lo ws (u.take n)
  | 0, _, h => by
    have := h 0 (Nat.le_refl _)
    rw [List.take_zero, ht_nil] at this
    rw [List.take_zero]
    exact this
  | n + 1, hn, h => by
    have ih := lo_ge ws u n (by omega) (fun i hi => h i (by omega))
    have h0 := h n (by omega)
    have h1 := h (n + 1) (Nat.le_refl _)
    rw [List.take_succ_eq_append_getElem (by omega)] at h1 ⊢
    rw [ht_app] at h1
    rw [lo_app]
    have e : lo ws [u[n]] = min 0 (ht ws [u[n]]) := by unfold lo ht; rw [climL_one]; rfl
    rw [e]
    omega
section
variable {rs : List Fac} {ls : List Int}
theorem rk_hom (hls : gLens rs [] = some ls) {v : Nat → Int} (φ : List Nat → Int) (h0 : φ [] = 0) (ha : ∀ a b, φ (a ++ b) = φ a + φ b) (hv : ∀ k, k < rs.length → v k = φ ((wds rs).getD k [])) :
    ∀ (f r : Nat) (m : Int), r < f → r < rs.length → rk v ls rs f r m = φ (((wds rs).getD r []).take m.toNat)
  | 0, _, _, h, _ => by omega
  | f + 1, r, m, _, hr => by
    have hwf := wf_of hls
    have hlen := lens_word hls hr
    rw [rk]
    by_cases h00 : m ≤ 0
    · rw [if_pos h00, show m.toNat = 0 by omega, List.take_zero, h0]
    rw [if_neg h00]
    by_cases h1 : ls.getD r 0 ≤ m
    · rw [if_pos h1, List.take_of_length_le (by omega), hv r hr]
    rw [if_neg h1]
    have hx : rs[r]? = some (rs[r]'hr) := List.getElem?_eq_getElem _
    rw [hx]
    have hk : (rs[r]'hr).l.size = 0 ∧ (rs[r]'hr).a.toNat < r ∧ (rs[r]'hr).b.toNat < r ∧ (wds rs).getD r [] = (wds rs).getD (rs[r]'hr).a.toNat [] ++ (wds rs).getD (rs[r]'hr).b.toNat [] := by
      rcases hwf r _ hx with ⟨h0', a0, a1, b0, b1⟩ | ⟨c, hc, hl, _, _⟩
      · exact ⟨h0', by omega, by omega, full_pair [] wdF wdG hwf hx h0'⟩
      · exfalso
        have e2 := full_let (d := []) (F := wdF) (G := wdG) hx (by rw [hl]; show (1 : Nat) ≠ 0; omega)
        have e3 : ((wds rs).getD r []).length = 1 := by unfold wds; rw [e2]; rfl
        omega
    obtain ⟨_, hka, hkb, e⟩ := hk
    show rk v ls rs f _ m + rk v ls rs f _ _ = _
    rw [rk_hom hls φ h0 ha hv f _ m (by omega) (by omega), rk_hom hls φ h0 ha hv f _ _ (by omega) (by omega), e, List.take_append, ha, lens_word hls (by omega)]
    congr 2
    congr 1
    omega
theorem rkT_hom (hls : gLens rs [] = some ls) {v : Nat → Int} (φ : List Nat → Int) (h0 : φ [] = 0) (ha : ∀ a b, φ (a ++ b) = φ a + φ b) (hv : ∀ k, k < rs.length → v k = φ ((wds rs).getD k [])) (m : Int) : rkT v ls rs m = φ ((wdN rs).take m.toNat) := by
  unfold rkT
  by_cases h : rs = []
  · subst h; simp [wdN, h0]
  · have h1 : rs.length ≠ 0 := fun e => h (List.eq_nil_of_length_eq_zero e)
    rw [if_neg h1, rk_hom hls φ h0 ha hv _ _ _ (by omega) (by omega)]
    unfold wdN; rw [if_neg h]
theorem cla_word (hls : gLens rs [] = some ls) (ws : List Int) (m : Int) : rkT (clV ws rs) ls rs m = ht ws ((wdN rs).take m.toNat) :=
  rkT_hom hls (ht ws) rfl (ht_app ws) (fun k hk => by unfold clV ht; rw [clim_word (wf_of hls) hk]) m
theorem belGo_word (hls : gLens rs [] = some ls) {ws : List Int} {z : Int} : ∀ (f r : Nat) (h n : Int), r < f → r < rs.length → h + lo ws ((wds rs).getD r []) < z → z ≤ h →
    ∃ j : Nat, belGo (clim ws rs) ls rs z f r h n = n + j ∧ j < ((wds rs).getD r []).length ∧ h + ht ws (((wds rs).getD r []).take (j + 1)) < z ∧ ∀ i, i ≤ j → z ≤ h + ht ws (((wds rs).getD r []).take i)
  | 0, _, _, _, h, _, _, _ => by omega
  | f + 1, r, h, n, _, hr, h1, h2 => by
    have hwf := wf_of hls
    have hx : rs[r]? = some (rs[r]'hr) := List.getElem?_eq_getElem _
    rcases hwf r _ hx with ⟨h0, a0, a1, b0, b1⟩ | ⟨c, hc, hl, _, _⟩
    · have e : (wds rs).getD r [] = (wds rs).getD (rs[r]'hr).a.toNat [] ++ (wds rs).getD (rs[r]'hr).b.toNat [] := full_pair [] wdF wdG hwf hx h0
      have hla := lens_word hls (show (rs[r]'hr).a.toNat < rs.length by omega)
      rw [belGo_step (by omega) hx h0, clim_word hwf (show (rs[r]'hr).a.toNat < rs.length by omega), Nat.add_sub_cancel]
      rw [e, lo_app] at h1
      by_cases hlt : h + (climL ws ((wds rs).getD (rs[r]'hr).a.toNat [])).l < z
      · rw [if_pos hlt]
        obtain ⟨j, e1, e2, e3, e4⟩ := belGo_word hls (ws := ws) (z := z) f (rs[r]'hr).a.toNat h n (by omega) (by omega) hlt h2
        refine ⟨j, e1, by rw [e, List.length_append]; omega, ?_, fun i hi => ?_⟩
        · rw [e, List.take_append_of_le_length (by omega)]; exact e3
        · rw [e, List.take_append_of_le_length (by omega)]; exact e4 i hi
      · rw [if_neg hlt]
        have hlo : lo ws ((wds rs).getD (rs[r]'hr).a.toNat []) = (climL ws ((wds rs).getD (rs[r]'hr).a.toNat [])).l := rfl
        have hht : ht ws ((wds rs).getD (rs[r]'hr).a.toNat []) = (climL ws ((wds rs).getD (rs[r]'hr).a.toNat [])).t := rfl
        have hok := (climL_ok ws ((wds rs).getD (rs[r]'hr).a.toNat [])).lt
        obtain ⟨j, e1, e2, e3, e4⟩ := belGo_word hls (ws := ws) (z := z) f (rs[r]'hr).b.toNat (h + (climL ws ((wds rs).getD (rs[r]'hr).a.toNat [])).t) (n + ls.getD (rs[r]'hr).a.toNat 0) (by omega) (by omega) (by omega) (by omega)
        refine ⟨((wds rs).getD (rs[r]'hr).a.toNat []).length + j, by rw [e1, hla]; omega, by rw [e, List.length_append]; omega, ?_, fun i hi => ?_⟩
        · rw [e, List.take_append, List.take_of_length_le (by omega), ht_app, show ((wds rs).getD (rs[r]'hr).a.toNat []).length + j + 1 - ((wds rs).getD (rs[r]'hr).a.toNat []).length = j + 1 by omega]
          omega
        · by_cases hi2 : i ≤ ((wds rs).getD (rs[r]'hr).a.toNat []).length
          · rw [e, List.take_append_of_le_length hi2]
            have := lo_le ws ((wds rs).getD (rs[r]'hr).a.toNat []) i
            omega
          · rw [e, List.take_append, List.take_of_length_le (by omega), ht_app]
            have := e4 (i - ((wds rs).getD (rs[r]'hr).a.toNat []).length) (by omega)
            omega
    · have hz : (rs[r]'hr).l.size ≠ 0 := by rw [hl]; show (1 : Nat) ≠ 0; omega
      rw [belGo_stop (by omega) hx hz]
      have e3 : (wds rs).getD r [] = [letN (rs[r]'hr).l] := full_let (d := []) (F := wdF) (G := wdG) hx hz
      rw [e3] at h1 ⊢
      have e4 : lo ws [letN (rs[r]'hr).l] = min 0 (ht ws [letN (rs[r]'hr).l]) := by unfold lo ht; rw [climL_one]; rfl
      rw [e4] at h1
      refine ⟨0, by omega, by simp, ?_, fun i hi => ?_⟩
      · show h + ht ws [letN (rs[r]'hr).l] < z
        omega
      · obtain rfl : i = 0 := by omega
        rw [List.take_zero, ht_nil]; omega
/-- the first place that is below -/
theorem bel_word (hg : (gOk rs).isSome = true) {ws : List Int} {z : Int} (h0 : z ≤ 0) (h1 : lo ws (wdN rs) < z) :
    ∃ j : Nat, belGo (clim ws rs) (lensOf rs) rs z rs.length (rs.length - 1) 0 0 + 1 = (j : Int) ∧ 0 < j ∧ j ≤ (wdN rs).length ∧ ht ws ((wdN rs).take j) < z ∧ ∀ i, i < j → z ≤ ht ws ((wdN rs).take i) := by
  obtain ⟨ls, hls⟩ := Option.isSome_iff_exists.1 hg
  obtain ⟨hls', _, hll⟩ := gOk_lens hls
  have hlo : lensOf rs = ls := by unfold lensOf; rw [hls']; rfl
  by_cases h : rs = []
  · subst h
    have : lo ws (wdN []) = 0 := rfl
    omega
  · have hp : 0 < rs.length := List.length_pos_iff.2 h
    have e : wdN rs = (wds rs).getD (rs.length - 1) [] := by unfold wdN; rw [if_neg h]
    rw [hlo]
    rw [e] at h1 ⊢
    obtain ⟨j, e1, e2, e3, e4⟩ := belGo_word hls' (ws := ws) (z := z) rs.length (rs.length - 1) 0 0 (by omega) (by omega) (by omega) (by omega)
    exact ⟨j + 1, by rw [e1]; omega, by omega, by omega, by omega, fun i hi => by have := e4 i (by omega); omega⟩
end
end Go.Proofs.Ytgdbpkpaacbhhaa


/-
  A part of a word in the reference: its cover.
-/
namespace Go.Proofs.Ytgdbpkpaacbhhaa
open Go.RowKit

def covI (ls : List Int) (rs : List Fac) (f r : Nat) (i j : Int) : List Int := (cov ls rs f r i j).map fun (k : Nat) => (k : Int)
theorem covI_len (ls : List Int) (rs : List Fac) (f r : Nat) (i j : Int) : (covI ls rs f r i j).length = (cov ls rs f r i j).length := by unfold covI; simp
/-- a list, behind one that grows -/
def CovPost (base : Nat) (w : World) (ys : List Int) (e : Ending) (w' : World) : Prop :=
  ∃ A c, e = .returned (.slice A ys.length c) ∧ w'.ownsRow base 2 1 (.slice A ys.length c) ys.length (ys.flatMap intE) ∧ Below base w w'
set_option maxHeartbeats 4000000 in
set_option maxRecDepth 100000 in
theorem l02Cover_any (gb : Nat) (A : Option Addr) (n c : Nat) (rs : List Fac) (D : Option Addr) (d : Nat) (ls : List Int) (base : Nat) (hgb : gb < base) (hn : n ≤ 1048576) (hls : gLens rs [] = some ls) :
    ∀ (r f : Nat) (i j : Int) (E : Option Addr) (k e : Nat) (xs : List Int) (w : World), r < f → r < n → base ≤ w.heap.size → w.cell? ⟨gb, 0, none⟩ = some (.slice A n c) → Rd w base A n 3 Fac.cells rs → Rd w base D n 1 intE ls →
      xs.length = k → w.ownsRow base 2 1 (.slice E k e) k (xs.flatMap intE) → k + (cov ls rs f r i j).length ≤ 4000000 → 0 ≤ i → i ≤ 1000000000000000 → j ≤ ls.getD r 0 → -1000000000000000 ≤ j →
      Calls Try.prog 83 #[.pointer (some ⟨gb, 0, none⟩), .slice D n d, .int .i64 (r : Int), .int .i64 i, .int .i64 j, .slice E k e] w (CovPost base w (xs ++ covI ls rs f r i j)) := by
  intro r
  induction r using Nat.strongRecOn with
  | ind r ih =>
    intro f i j E k e xs w hrf hr hbs hc hA hD hxk hown hk hi0 hi1 hj1 hj0
    have IH := Lib.hid ih; clear ih
    have HL := Lib.hid hls
    have hl := Lib.hid hA.len
    have HA := Lib.hid hA
    have HD := Lib.hid hD
    have HO := Lib.hid hown
    have HX := Lib.hid hxk
    have hgw : gb < w.heap.size := by omega
    obtain ⟨p2, o2, rfl, hB2, c2'⟩ := hD.i64 (k := r) hr
    obtain ⟨b, o, x, rfl, hB1, gx, c00, c01, c02⟩ := hA.fac hr
    have lb := lens_bound HL.out (i := r) (by rw [hl.out]; exact hr)
    have Gx := Lib.hid gx
    clear gx hown hA hD
    obtain ⟨lb0, lb1⟩ := lb
    have i1 : (0 : Int) ≤ (r : Int) := by omega
    have i2 : (r : Int) < n := by omega
    by_cases h1 : j ≤ i
    · have e1 := Lib.hid (show xs ++ covI ls rs f r i j = xs by unfold covI; rw [cov_no h1]; simp)
      clear lb0 lb1 hj1 hk
      go_enter Try.func83, Try.ntmps83
      go_wp2_with fail
      go_ret
      refine ⟨E, e, ret_slice (by rw [e1.out, HX.out]), ?_, Below.refl _ _⟩
      rw [e1.out, HX.out]; exact HO.out
    by_cases h2 : i = 0 ∧ j = ls.getD r 0
    · have e0 : cov ls rs f r i j = [r] := cov_one hrf h1 h2
      have e1 := Lib.hid (show xs ++ covI ls rs f r i j = xs ++ [(r : Int)] by unfold covI; rw [e0]; rfl)
      rw [e0] at hk
      simp only [List.length_singleton] at hk
      clear e0
      obtain ⟨h20, h21⟩ := h2
      generalize ls.getD r 0 = lr at *
      subst h20 h21
      go_enter Try.func83, Try.ntmps83
      go_wp2_with
        (at_builtin
         refine wpList_pushG rfl _ _ _ rfl base 2 1 8 elem_int intE E k e xs rfl (HO.out.alloc _) w.heap.size (r : Int) #[.int .i64 (r : Int)] 2 (0, 0) rfl (heap_alloc_new _ _) rfl rfl (by simp [intE, Value.oneCell']) (by omega) (by omega) (by unfold maxLen; omega) (Nat.le_trans hbs (by simp)) ?_
         intro A9 c9 w9 own9 hg9 hat9
         have O9 := Lib.hid own9
         have hb9 := (Below.refl base w).alloc hbs (.cells #[.int .i64 (r : Int)] 2)
         have B9 := Lib.hid (hb9.grown hg9 (Nat.le_trans hbs (by simp)) (fun q hq => (HO.out.lt q hq).1))
         clear hb9
         clear own9)
      go_ret
      refine ⟨A9, c9, ret_slice (by rw [e1.out, List.length_append, HX.out]; rfl), ?_, B9.out⟩
      rw [e1.out, List.length_append, HX.out]; exact O9.out
    · have e0 := cov_go hrf h1 h2 Gx.out
      rcases wf_of HL.out r x Gx.out with ⟨h0, ha0, ha1, hb0', hb1'⟩ | ⟨cc, _, hxl, _⟩
      case inr =>
        exfalso
        have h0 : x.l.size ≠ 0 := by rw [hxl]; show (1 : Nat) ≠ 0; omega
        have := lens_let HL.out Gx.out h0
        apply h2
        omega
      have lp := lens_pair HL.out Gx.out h0
      have lb2 := lens_bound HL.out (i := x.a.toNat) (by rw [hl.out]; omega)
      have lb3 := lens_bound HL.out (i := x.b.toNat) (by rw [hl.out]; omega)
      obtain ⟨p9, o9, hA9, hB9, c9⟩ := HD.out.i64 (k := x.a.toNat) (by omega)
      obtain ⟨rfl, rfl⟩ : p2 = p9 ∧ o2 = o9 := by injection hA9 with hA9; injection hA9 with h1 h2; exact ⟨h1, h2⟩
      have e1 := Lib.hid (show xs ++ covI ls rs f r i j = (xs ++ covI ls rs (f - 1) x.a.toNat i (min j (ls.getD x.a.toNat 0))) ++ covI ls rs (f - 1) x.b.toNat (max (i - ls.getD x.a.toNat 0) 0) (j - ls.getD x.a.toNat 0) by
        unfold covI; rw [e0, List.map_append, List.append_assoc])
      have hk1 : k + (cov ls rs (f - 1) x.a.toNat i (min j (ls.getD x.a.toNat 0))).length ≤ 4000000 := by rw [e0, List.length_append] at hk; omega
      have hk2 : (xs ++ covI ls rs (f - 1) x.a.toNat i (min j (ls.getD x.a.toNat 0))).length + (cov ls rs (f - 1) x.b.toNat (max (i - ls.getD x.a.toNat 0) 0) (j - ls.getD x.a.toNat 0)).length ≤ 4000000 := by
        rw [e0, List.length_append] at hk; rw [List.length_append, covI_len, HX.out]; omega
      have hx0 := Lib.hid (fun (w1 : World) (h : Below w.heap.size w w1) => IH.out x.a.toNat (by omega) (f - 1) i (min j (ls.getD x.a.toNat 0)) E k e xs w1 (by omega) (by omega) (by have := h.size; omega) ((h.cell (p := ⟨gb, 0, none⟩) hgw).trans hc) (HA.out.next' hbs h) (HD.out.next' hbs h) HX.out (own_next HO.out h) hk1 hi0 hi1 (by omega) (by omega))
      rw [show ((x.a.toNat : Nat) : Int) = x.a by omega] at hx0
      have hx1 := Lib.hid (fun (w1 : World) (A5 : Option Addr) (c5 : Nat) (h : Below base w w1) (ho : w1.ownsRow base 2 1 (.slice A5 (xs ++ covI ls rs (f - 1) x.a.toNat i (min j (ls.getD x.a.toNat 0))).length c5) (xs ++ covI ls rs (f - 1) x.a.toNat i (min j (ls.getD x.a.toNat 0))).length ((xs ++ covI ls rs (f - 1) x.a.toNat i (min j (ls.getD x.a.toNat 0))).flatMap intE)) =>
        IH.out x.b.toNat (by omega) (f - 1) (max (i - ls.getD x.a.toNat 0) 0) (j - ls.getD x.a.toNat 0) A5 _ c5 _ w1 (by omega) (by omega) (by have := h.size; omega) ((h.cell (p := ⟨gb, 0, none⟩) hgb).trans hc) (HA.out.below h) (HD.out.below h) rfl ho hk2 (by omega) (by omega) (by omega) (by omega))
      rw [show ((x.b.toNat : Nat) : Int) = x.b by omega] at hx1
      generalize xs ++ covI ls rs (f - 1) x.a.toNat i (min j (ls.getD x.a.toNat 0)) = ys at *
      generalize covI ls rs (f - 1) x.b.toNat (max (i - ls.getD x.a.toNat 0) 0) (j - ls.getD x.a.toNat 0) = zs at *
      generalize ls.getD x.a.toNat 0 = y at *
      have hnot : i = 0 → (j != ls.getD r 0) = true := fun h4 => by simpa using fun h5 => h2 ⟨h4, h5⟩
      generalize ls.getD r 0 = lr at *
      have u1 : IntKind.i64.wrap (i - y) = i - y := IntWalk.i64_in _ (by omega)
      have u2 : IntKind.i64.wrap (j - y) = j - y := IntWalk.i64_in _ (by clear u1; omega)
      have i5 : x.a < (n : Int) := by omega
      by_cases h4 : i = 0
      all_goals
        try have h5 := hnot h4
        try (subst h4; simp only [Int.zero_sub] at hx1 u1)
        try have h6 : ¬ j = lr := by simpa using h5
        clear hnot h2 lp lb2 lb3 lb0 lb1 e0 hk hk1 hk2 IH HA HD HO HX
        go_enter Try.func83, Try.ntmps83
        go_wp2_with fail
        go_region_held3 (fun w' => w'.cell? ⟨b, o + r * 3 + 1, none⟩ = some (.int .i64 x.a))
          (first | exact s2 | exact s1 | exact c01 | go_keep)
          (first
            | (go_at_call 55
               refine (l00Min_any j y w.drew).mono ?_
               rintro e9 w1 ⟨rfl, hb1⟩
               have b1 : Below w.heap.size w w1 := (Below.refl _ _).drew.trans hb1
               have s1 : w1.cell? ⟨b, o + r * 3 + 1, none⟩ = some (.int .i64 x.a) := (b1.cell (p := ⟨b, o + r * 3 + 1, none⟩) (by show b < _; omega)).trans c01)
            | (go_at_call 83
               refine (hx0.out w1 b1).mono ?_
               rintro e9 w2 ⟨A5, c5, rfl, own5, hb5⟩
               have b2 : Below base w w2 := (b1.mono hbs).trans hb5
               have O5 := Lib.hid own5
               have s2 : w2.cell? ⟨b, o + r * 3 + 1, none⟩ = some (.int .i64 x.a) := (b2.cell (p := ⟨b, o + r * 3 + 1, none⟩) hB1).trans c01
               clear own5)
            | fail)
        have hgb2 := (b2.cell (p := ⟨gb, 0, none⟩) hgb).trans hc
        have c92 := (b2.cell (p := ⟨b, o + r * 3 + 2, none⟩) hB1).trans c02
        have z2 := b2.size
        clear c00 c01 c02 c2' c9 hx0 hc b1 hb1 s1 hb5
        go_wp2_with fail
        go_region_held3 (fun w' => w'.cell? ⟨b, o + r * 3 + 2, none⟩ = some (.int .i64 x.b))
          (first | exact s4 | exact s3 | exact c92 | go_keep)
          (first
            | (go_at_call 99
               refine (l00Max_any _ 0 w2.drew).mono ?_
               rintro e9 w3 ⟨rfl, hb3⟩
               have b3 : Below w2.heap.size w2 w3 := (Below.refl _ _).drew.trans hb3
               have s3 : w3.cell? ⟨b, o + r * 3 + 2, none⟩ = some (.int .i64 x.b) := (b3.cell (p := ⟨b, o + r * 3 + 2, none⟩) (by show b < _; omega)).trans c92)
            | (go_at_call 83
               refine (hx1.out w3 A5 c5 (b2.trans (b3.mono (Nat.le_trans hbs z2))) (own_next O5.out b3)).mono ?_
               rintro e9 w4 ⟨A6, c6, rfl, own6, hb6⟩
               have b4 : Below base w w4 := (b2.trans (b3.mono (Nat.le_trans hbs z2))).trans hb6
               have O6 := Lib.hid own6
               have s4 : w4.cell? ⟨b, o + r * 3 + 2, none⟩ = some (.int .i64 x.b) := (hb6.cell (p := ⟨b, o + r * 3 + 2, none⟩) hB1).trans s3
               clear own6)
            | fail)
        go_wp2_with fail
        go_ret
        refine ⟨A6, c6, ret_slice (by rw [e1.out, List.length_append]), ?_, b4⟩
        rw [e1.out]; exact O6.out
end Go.Proofs.Ytgdbpkpaacbhhaa


/-
  A part of a word in the reference: its rules.
-/
namespace Go.Proofs.Ytgdbpkpaacbhhaa
open Go.RowKit

theorem Rd.take {α : Type} {w : World} {B n sz : Nat} {A : Option Addr} {enc : α → List Value} {xs : List α} (h : Rd w B A n sz enc xs) {k : Nat} (hk : k ≤ n) : Rd w B A k sz enc (xs.take k) := by
  refine ⟨by rw [List.length_take, h.1]; omega, fun hp => ?_⟩
  obtain ⟨b, o, hA, hb, hc⟩ := h.2 (by omega)
  refine ⟨b, o, hA, hb, fun i x hx j v hv => hc i x ?_ j v hv⟩
  rw [List.getElem?_take] at hx
  split at hx
  · exact hx
  · cases hx
theorem own_cap {w : World} {base e sz n c : Nat} {A : Option Addr} {xs : List Value} (h : w.ownsRow base e sz (.slice A n c) n xs) : n ≤ c := by
  rcases h.2 with ⟨_, h0⟩ | ⟨g, cap, cur, hv, _, _, hnc, _⟩
  · omega
  · injection hv with _ _ hc; omega
theorem own_more {w : World} {b b' e sz n : Nat} {v : Value} {xs : List Value} (h : w.ownsRow b e sz v n xs) (hb : b' ≤ b) : w.ownsRow b' e sz v n xs := by
  refine ⟨h.1, ?_⟩
  rcases h.2 with hn | ⟨g, cap, cur, hv, hg, r⟩
  · exact .inl hn
  · exact .inr ⟨g, cap, cur, hv, Nat.le_trans hb hg, r⟩
set_option maxHeartbeats 2000000 in
set_option maxRecDepth 100000 in
theorem l02Cut_any (gb : Nat) (A : Option Addr) (n c : Nat) (rs : List Fac) (i j : Int) (ls : List Int) (w : World) (hg : gb < w.heap.size) (hc : w.cell? ⟨gb, 0, none⟩ = some (.slice A n c)) (hr : Rd w w.heap.size A n 3 Fac.cells rs) (hok : ∀ f ∈ rs, f.l.size ≤ maxLen) (hcap : n ≤ c)
    (hgo : gOk rs = some ls) (hi : 0 ≤ i) (hij : i < j) (hj : j ≤ lastI ls) :
    Calls Try.prog 43 #[.pointer (some ⟨gb, 0, none⟩), .int .i64 i, .int .i64 j] w (RetG w (cutL rs (covT ls rs i j))) := by
  have hl := Lib.hid hr.len
  have HR := Lib.hid hr
  have HO := Lib.hid hok
  have HG := Lib.hid hgo
  have HL := Lib.hid (gOk_lens hgo).1
  have hll := Lib.hid (gOk_lens hgo).2.2
  have hn4 : n ≤ 400 := by have := (gOk_lens hgo).2.1; have := hl.out; omega
  obtain ⟨k0, k1, k2, k3, k4⟩ := covT_ok HL.out hll.out hi hij hj
  have K1 := Lib.hid k1
  have hn0 : 0 < n := by have := hl.out; omega
  have hlt := lens_bound HL.out (i := n - 1) (by have := hl.out; omega)
  have hjl : j ≤ ls.getD (n - 1) 0 := by unfold lastI at hj; rw [hll.out, hl.out] at hj; exact hj
  have hcv := Lib.hid (show covI ls rs n (n - 1) i j = (covT ls rs i j).map (fun (k : Nat) => (k : Int)) by unfold covI covT; rw [hl.out])
  have hcl : (cov ls rs n (n - 1) i j).length ≤ 4000000 := by have : (cov ls rs n (n - 1) i j).length = (covT ls rs i j).length := by { unfold covT; rw [hl.out] }; have := hl.out; omega
  have hij' : (i == j) = false := by simp; omega
  have u0 : IntKind.i64.wrap ((n : Int) - 1) = (n : Int) - 1 := IntWalk.i64_in _ (by omega)
  have HCV := Lib.hid (fun (W : World) (A2 : Option Addr) (c2 base : Nat) (h1 : gb < base) (h2 : base ≤ W.heap.size) (h3 : W.cell? ⟨gb, 0, none⟩ = some (.slice A n c)) (h4 : Rd W base A n 3 Fac.cells rs) (h5 : Rd W base A2 n 1 intE ls) (E : Option Addr) (h6 : W.ownsRow base 2 1 (.slice E 0 0) 0 (([] : List Int).flatMap intE)) =>
    l02Cover_any gb A n c rs A2 c2 ls base h1 (by omega) HL.out (n - 1) n i j E 0 0 [] W (by omega) (by omega) h2 h3 h4 h5 rfl h6 (by omega) hi (by omega) hjl (by omega))
  rw [show ((n - 1 : Nat) : Int) = (n : Int) - 1 by omega, hcv.out, List.nil_append] at HCV
  have hb0 : Below w.heap.size w (w.alloc (.cells #[.slice none 0 0] 26)) := by (repeat first | exact Below.refl _ _ | assumption | refine Below.drew ?_ | refine Below.alloc ?_ (by first | exact Nat.le_refl _ | (simp; done) | omega | (simp; omega)) _ | refine Below.setCell ?_ (by first | exact Nat.le_refl _ | (simp; done) | omega | (simp; omega)) _)
  have BX := Lib.hid (Blk.new w 26 #[.slice none 0 0])
  have HC := Lib.hid hc
  generalize covT ls rs i j = cv at *
  clear hr hok hgo hj hjl hlt hcl hc
  go_enter Try.func43, Try.ntmps43
  go_wp2_with fail
  refine (l02Lengths_any gb A n c rs _ (by simp; omega) ((hb0.cell (p := ⟨gb, 0, none⟩) hg).trans HC.out) (by omega) (HR.out.next hb0) HO.out).mono ?_
  rintro e1 w2 ⟨hb2, ⟨ls', A2, c2, hg2, rfl, hown2⟩ | ⟨hg2, _⟩⟩
  case inr => exact absurd (hg2.symm.trans HG.out) (by simp)
  obtain rfl : ls' = ls := Option.some.inj (hg2.symm.trans HG.out)
  have b2 := hb0.trans (hb2.mono hb0.size)
  have B2 := Lib.hid (BX.out.next hb2)
  have r2 := Lib.hid (Rd.of_own (enc := intE) (fun _ _ => rfl) rfl hown2)
  have z2 := b2.size
  have c22 := (b2.cell (p := ⟨gb, 0, none⟩) hg).trans HC.out
  have lg2 : gb < w2.heap.size := by omega
  have hs := hll.out.trans hl.out
  rw [hs] at r2 ⊢
  clear hown2 hg2 hb0 hs
  go_wp2_with fail
  have b23 : Below w2.heap.size w2 (w2.alloc (.cells #[] 2)) := by (repeat first | exact Below.refl _ _ | assumption | refine Below.drew ?_ | refine Below.alloc ?_ (by first | exact Nat.le_refl _ | (simp; done) | omega | (simp; omega)) _ | refine Below.setCell ?_ (by first | exact Nat.le_refl _ | (simp; done) | omega | (simp; omega)) _)
  refine (HCV.out _ A2 c2 w2.heap.size lg2 (by simp) ((b23.cell (p := ⟨gb, 0, none⟩) lg2).trans c22) ((HR.out.next b2).below b23) (r2.out.below b23) _ (by simpa using World.ownsRow_made (base := w2.heap.size) (e := 2) (size := 1) w2 #[] 0 (Nat.le_refl _) (by unfold maxLen; omega) rfl)).mono ?_
  rintro e1 w4 ⟨A4, c4, rfl, own4, hb4⟩
  have b4 := b23.trans (hb4.mono (Nat.le_refl _))
  have z4 := b4.size
  have bb4 := b2.trans (b4.mono z2)
  have O4 := Lib.hid own4
  have r4 := Lib.hid (Rd.of_own (enc := intE) (fun _ _ => rfl) rfl own4)
  have B4 := Lib.hid (B2.out.next b4)
  have hlen : (cv.map fun (k : Nat) => (k : Int)).length = cv.length := by simp
  rw [hlen] at r4 ⊢
  have c24 := (bb4.cell (p := ⟨gb, 0, none⟩) hg).trans HC.out
  have lg4 : gb < w4.heap.size := by omega
  have HR4 := Lib.hid (HR.out.next bb4)
  clear own4 hb4 b23 HCV b2 hb2 c22 b4 r2 O4 lg2 hlen u0
  have q0 : ∀ k, k < cv.length → 0 ≤ cv.getD k 0 ∧ cv.getD k 0 < n := fun k hk => by
    have := K1.out (cv.getD k 0) (by rw [List.getD_eq_getElem?_getD, List.getElem?_eq_getElem hk]; simp)
    have := hl.out
    omega
  have gq : ∀ k, k < cv.length → (cv.map fun (k : Nat) => (k : Int)).getD k 0 = ((cv.getD k 0 : Nat) : Int) := fun k hk => by
    rw [List.getD_eq_getElem?_getD, List.getElem?_map, List.getD_eq_getElem?_getD, List.getElem?_eq_getElem hk]; simp
  obtain ⟨p4, o4, rfl, hB4, c04⟩ := r4.out.i64 (k := 0) k4
  rw [gq 0 k4, Nat.add_zero] at c04
  obtain ⟨q01, q02⟩ := q0 0 k4
  by_cases h1 : cv.length = 1
  · obtain ⟨x, rfl⟩ := List.length_eq_one_iff.1 h1
    simp only [List.getD_cons_zero] at c04 q02
    have e1 := Lib.hid (show cutL rs [x] = rs.take (x + 1) from rfl)
    have ht := Lib.hid (HR4.out.take (k := x + 1) (by omega))
    obtain ⟨b, o, rfl, hb, hnews⟩ := ht.out.news (fun y _ => fac_len y) (by omega)
    have HN := Lib.hid hnews
    have u1 : IntKind.i64.wrap ((x : Int) + 1) = (x : Int) + 1 := IntWalk.i64_in _ (by omega)
    have j0 : (0 : Int) ≤ (x : Int) + 1 := by omega
    have hym : (rs.take (x + 1)).length = x + 1 := by rw [List.length_take, hl.out]; omega
    have j1 : (x : Int) + 1 ≤ (c : Int) := by omega
    have bda := Lib.hid (((Below.refl w4.heap.size w4).alloc (Nat.le_refl _) (.cells #[] 82)).drew)
    have own0' : (w4.alloc (.cells #[] 82)).ownsRow w4.heap.size 82 3 (.slice (some ⟨w4.heap.size, 0, none⟩) 0 0) 0 (([] : List Fac).flatMap Fac.cells) := by
      simpa using World.ownsRow_made (base := w4.heap.size) (e := 82) (size := 3) w4 #[] 0 (by simp) (by unfold maxLen; omega) rfl
    have own0 := Lib.hid own0'.drew
    clear own0'
    have bx4 := B4.out
    have nx : w.heap.size < w4.heap.size := bx4.lt
    clear hnews h1 r4 ht bx4
    go_wp2_with fail
    go_region_law
      (refine step_app (by rfl) _ _ _ (by rfl) w4.heap.size 82 3 32 elem_rule Fac.cells (some ⟨w4.heap.size, 0, none⟩) 0 0 [] (by rfl) own0.out ⟨b, o, none⟩ (x + 1) c (rs.take (x + 1)) (by rfl) hym (by omega) (fun q u hq => (bda.out.cell (p := (⟨b, o, none⟩ : Addr).add q) (by simpa [Addr.add_lit] using hb)).trans (HN.out q u hq)) (fun y _ => fac_len y) (fun y _ => one_fac y) (by omega) (by omega) (by unfold maxLen; omega) (by simp) ?_
       rw [Nat.zero_add, List.nil_append]
       intro A9 c9 w9 own9 hg9
       have O9 := Lib.hid own9
       have B9 := Lib.hid (bda.out.grown hg9 (by simp) (fun k hk => (own0.out.lt k hk).1))
       have X9 := B4.out.next B9.out
       have X9' := Lib.hid X9
       have f9 := X9.frozen
       have d9 := X9.cell 0
       have l9 := X9.lt
       clear own9 X9)
    all_goals
      have X10 := X9'.out.set_ 0 (.slice A9 (x + 1) c9)
      have x10 : (w9.setCell ⟨w.heap.size, 0, none⟩ (.slice A9 (x + 1) c9)).cell? ⟨w.heap.size, 0, none⟩ = some (.slice A9 (x + 1) c9) := by rw [X10.cell 0]; rfl
      go_wp2_with fail
      refine bodyPost_ret (v := .agg #[.slice A9 (x + 1) c9]) (by simp [results, Try.results43, go_sem, x10]) rfl ⟨A9, c9, by rw [e1.out, hym], ?_, ?_⟩
      · rw [e1.out, hym]
        exact own_more (own_kept' O9.out X9'.out (by decide) _) (Nat.le_of_lt nx)
      · exact (bb4.trans (B9.out.mono (Nat.le_of_lt nx))).setCell (Nat.le_refl _) _
  · have c2' : 2 ≤ cv.length := by omega
    have hne : (((cv.length : Nat) : Int) == 1) = false := by simp; omega
    obtain ⟨x0, rest, hcv0⟩ : ∃ x0 rest, cv = x0 :: rest := by
      cases cv with
      | nil => simp at c2'
      | cons x r => exact ⟨x, r, rfl⟩
    obtain ⟨x1, rest1, hcv1⟩ : ∃ x1 r, rest = x1 :: r := by
      cases rest with
      | nil => subst hcv0; simp at c2'
      | cons x r => exact ⟨x, r, rfl⟩
    have e0 : cv.getD 0 0 = x0 := by rw [hcv0]; rfl
    have he := Lib.hid (show cutL rs cv = rs ++ chain n x0 (cv.drop 1) by rw [hcv0, hcv1]; show rs ++ chain rs.length x0 (x1 :: rest1) = _; rw [hl.out]; rfl)
    have HQ := Lib.hid q0
    have GQ := Lib.hid gq
    rw [e0] at c04 q02
    generalize cutL rs cv = target at *
    generalize hL : cv.length = L at *
    have hL4 : L ≤ 800 := by have := hl.out; omega
    clear h1 hcv0 hcv1 e0 q0 gq q01
    have bx4 := B4.out
    have nx : w.heap.size < w4.heap.size := bx4.lt
    clear bx4
    go_wp2_with fail
    refine (l02Own_any gb A n c rs w4 lg4 c24 (by omega) hn0 HR4.out).mono ?_
    rintro e2 w5 ⟨A5, c5, rfl, own5, hb5⟩
    rw [hl.out] at own5 ⊢
    have O5 := Lib.hid own5
    have z5 := hb5.size
    have R5 := Lib.hid (r4.out.below hb5)
    have B5 := Lib.hid (B4.out.below hb5 nx)
    have c05 := (hb5.cell (p := ⟨p4, o4, none⟩) hB4).trans c04
    have l05 : p4 < w5.heap.size := by omega
    clear own5 c04 c24
    go_wp2_with fail
    go_loopw [11, 12] (fun l_ k_ w' => ∃ (k last m : Nat) (A' : Option Addr) (c' : Nat) (cur : List Fac), k_ = .int .i64 k ∧ l_ = .int .i64 last ∧ 1 ≤ k ∧ k ≤ L ∧ Hid (m + 1 = n + k) ∧ Hid (cur.length = m) ∧
        Hid (Blk w' w5.heap.size 26 #[.slice A' m c']) ∧ Hid (w'.ownsRow w4.heap.size 82 3 (.slice A' m c') m (cur.flatMap Fac.cells)) ∧ Hid (Below w4.heap.size w5 w') ∧ Hid (cur ++ chain m last (cv.drop k) = target)) (fun _ k_ _ => L - (intOf k_).toNat)
    case atStart =>
      refine ⟨1, x0, n, A5, c5, rs, rfl, rfl, by omega, by omega, Lib.hid (by omega), hl, Lib.hid ?_, Lib.hid ?_, Lib.hid ?_, Lib.hid he.out.symm⟩
      · exact Blk.new w5 _ _
      · exact O5.out.alloc _
      · exact (Below.refl _ _).alloc z5 _
    case round =>
      obtain ⟨k, last, m, A', c', cur, rfl, rfl, hk1, hkL, hm, hcl, hB, hown, hb, H⟩ := hrel
      have l5 := hB.out.lt
      have fB := hB.out.frozen
      have dB := hB.out.cell 0
      have dB' : wr.cell? ⟨w5.heap.size, 0, none⟩ = some (.slice A' m c') := dB
      clear dB
      by_cases hlt : k < L
      · obtain ⟨p9, o9, hA9, hB9, c9⟩ := (R5.out.below hb.out).i64 (k := k) (by omega)
        obtain ⟨rfl, rfl⟩ : p4 = p9 ∧ o4 = o9 := by injection hA9 with hA9; injection hA9 with h1 h2; exact ⟨h1, h2⟩
        rw [GQ.out k (by omega)] at c9
        have q1 := HQ.out k (by omega)
        have Hd := Lib.hid (show cv.drop k = cv.getD k 0 :: cv.drop (k + 1) by
          rw [List.drop_eq_getElem_cons (by omega)]; congr 1; rw [List.getD_eq_getElem?_getD, List.getElem?_eq_getElem (by omega)]; rfl)
        generalize cv.getD k 0 = x at *
        have i0 : (0 : Int) ≤ (k : Int) := by omega
        have i1 : (k : Int) < (L : Int) := by omega
        have hm2 : (m + 1) * 32 ≤ 140737488355328 := by have := hm.out; omega
        have hm3 : m + 1 ≤ maxLen := by have := hm.out; unfold maxLen; omega
        have BDA := Lib.hid ((hb.out.alloc (Nat.le_trans z5 hb.out.size) (.cells #[.string .empty, .int .i64 (last : Int), .int .i64 (x : Int)] 82)).drew)
        have OW := Lib.hid ((hown.out.alloc (.cells #[.string .empty, .int .i64 (last : Int), .int .i64 (x : Int)] 82)).drew)
        have zz : w4.heap.size ≤ (wr.alloc (.cells #[.string .empty, .int .i64 (last : Int), .int .i64 (x : Int)] 82)).drew.heap.size := Nat.le_trans z5 BDA.out.size
        go_wp2_with fail
        go_region_law
          (refine step_push (by rfl) _ _ _ (by rfl) w4.heap.size 82 3 32 elem_rule Fac.cells A' m c' cur (by rfl) OW.out _ ⟨⟨#[]⟩, (last : Int), (x : Int)⟩ #[.string .empty, .int .i64 (last : Int), .int .i64 (x : Int)] 82 (0, 0) (by rfl) (heap_alloc_new _ _) rfl rfl (one_fac _) (by omega) hm2 hm3 zz ?_
           intro A9 c9 w9 own9 hg9 old9
           have O9 := Lib.hid own9
           have B9 := Lib.hid (BDA.out.grown hg9 zz (fun k hk => (OW.out.lt k hk).1))
           have X9 := ((hB.out.alloc _).drew).grown hg9 (own_blk_ne OW.out ((hB.out.alloc _).drew) (by decide))
           have X9' := Lib.hid X9
           have f9 := X9.frozen
           have d9 := X9.cell 0
           have l9 := X9.lt
           clear own9 X9 old9 hg9)
        all_goals
          have X10 := X9'.out.set_ 0 (.slice A9 (m + 1) c9)
          have B10 := Lib.hid (B9.out.setCell (p := ⟨w5.heap.size, 0, none⟩) z5 (.slice A9 (m + 1) c9))
          have O10 := Lib.hid (own_kept' (i := 0) O9.out X9'.out (by decide) (.slice A9 (m + 1) c9))
          have d10 : (w9.setCell ⟨w5.heap.size, 0, none⟩ (.slice A9 (m + 1) c9)).cell? ⟨w5.heap.size, 0, none⟩ = some (.slice A9 (m + 1) c9) := by rw [X10.cell 0]; rfl
          have l10 := X10.lt
          have X10' := Lib.hid (show Blk (w9.setCell ⟨w5.heap.size, 0, none⟩ (.slice A9 (m + 1) c9)) w5.heap.size 26 #[.slice A9 (m + 1) c9] from X10)
          have um : IntKind.i64.wrap (((m + 1 : Nat) : Int) - 1) = (m : Int) := by rw [IntWalk.i64_in _ (by omega)]; omega
          clear X10 f9 d9 l9 fB dB' l5
          generalize w9.setCell ⟨w5.heap.size, 0, none⟩ (.slice A9 (m + 1) c9) = w10 at *
          go_wp2_with fail
          go_roundw
          case rel =>
            refine ⟨k + 1, m, m + 1, A9, c9, cur ++ [⟨⟨#[]⟩, (last : Int), (x : Int)⟩], by go_num, by go_num, by omega, by omega, Lib.hid (by have := hm.out; omega), Lib.hid (by rw [List.length_append, hcl.out]; rfl), X10', O10, B10, Lib.hid ?_⟩
            rw [← H.out, Hd.out, List.append_assoc]; rfl
          case measure => simp [intOf]; omega
      · have hkL' : k = L := by omega
        have ef := Lib.hid (show cur = target by rw [← H.out, List.drop_of_length_le (by omega)]; simp [chain])
        have Bw := (B5.out.below hb.out (by omega : w.heap.size < w4.heap.size))
        have fw := Bw.frozen
        have dw := Bw.cell 0
        have lw := Bw.lt
        have Bw' := Lib.hid Bw
        have Y := Lib.hid (Bw.set_ 0 (.slice A' m c'))
        have y10 : (wr.setCell ⟨w.heap.size, 0, none⟩ (.slice A' m c')).cell? ⟨w.heap.size, 0, none⟩ = some (.slice A' m c') := by rw [Y.out.cell 0]; rfl
        clear Bw
        go_wp2_with fail
        refine bodyPost_ret (v := .agg #[.slice A' m c']) (by simp [results, Try.results43, go_sem, y10]) rfl ⟨A', c', by rw [← ef.out, hcl.out], ?_, ?_⟩
        · rw [← ef.out, hcl.out]
          exact own_more (own_kept' hown.out Bw'.out (by decide) _) (Nat.le_of_lt nx)
        · exact (bb4.trans ((hb5.trans (hb.out.mono (Nat.le_refl _))).mono (Nat.le_of_lt nx))).setCell (Nat.le_refl _) _
end Go.Proofs.Ytgdbpkpaacbhhaa


/-
  The reader of choices: what it hands back lies within bounds.
-/
namespace Go.Proofs.Ytgdbpkpaacbhhaa
open Go.RowKit

def byteE (b : UInt8) : List Value := [.int .u8 (b.toNat : Int)]
def U64 (z : Int) : Prop := 0 ≤ z ∧ z < 18446744073709551616
/-- block g is a reader that has read at most K bytes -/
def Src (w : World) (g K : Nat) : Prop := ∃ (A : Option Addr) (n c k : Nat) (bs : List UInt8) (z : Int), k ≤ K ∧ n ≤ 4096 ∧ U64 z ∧ Blk w g 109 #[.slice A n c, .int .i64 k, .int .u64 z] ∧ Rd w g A n 1 byteE bs
/-- what a draw below m leaves -/
def Draw (w : World) (g K : Nat) (m : Int) (e : Ending) (w' : World) : Prop := ∃ v : Int, e = .returned (.int .i64 v) ∧ 0 ≤ v ∧ v < m ∧ Src w' g K ∧ w.grownBy w' (some g)
theorem Rd.byte {w : World} {B n : Nat} {A : Option Addr} {xs : List UInt8} {k : Nat} (h : Rd w B A n 1 byteE xs) (hk : k < n) :
    ∃ b o x, A = some ⟨b, o, none⟩ ∧ b < B ∧ xs[k]? = some x ∧ w.cell? ⟨b, o + k, none⟩ = some (.int .u8 (x.toNat : Int)) := by
  obtain ⟨b, o, hA, hb, x, hx, hc⟩ := h.at_ hk
  exact ⟨b, o, x, hA, hb, hx, by simpa using hc 0 _ rfl⟩
theorem Src.keep {w w' : World} {g K : Nat} (h : Src w g K) (hb : w'.heap[g]? = w.heap[g]?) (hr : ∀ p : Addr, p.block < g → w'.cell? p = w.cell? p) : Src w' g K := by
  obtain ⟨A, n, c, k, bs, z, h1, h2, h3, h4, h5⟩ := h
  exact ⟨A, n, c, k, bs, z, h1, h2, h3, hb.trans h4, h5.keep hr⟩

theorem wraps_63 (n : Int) (h₀ : 0 ≤ n) (h₁ : n < 2 ^ 63) : IntKind.u64.wrap n = n := by rw [IntKind.wrap_u64]; omega
theorem and_255 (z : Int) (h0 : 0 ≤ z) (h1 : z < 18446744073709551616) : 0 ≤ wrap64 (bits .and .u64 (z / 1099511627776) 255) ∧ wrap64 (bits .and .u64 (z / 1099511627776) 255) < 256 := by
  have h := bits_mask .u64 63 (by decide) wraps_63 8 (by decide) (z / 1099511627776) (by omega) (by omega)
  have e : ((2 : Int) ^ 8 - 1) = 255 := by decide
  have e2 : ((2 : Int) ^ 8) = 256 := by decide
  rw [e, e2] at h
  rw [h, IntWalk.wrap64_in _ (by omega)]
  omega
theorem u64_of (z : Int) : U64 (IntKind.u64.wrap z) := by
  unfold U64; rw [IntKind.wrap_u64]; omega
set_option maxHeartbeats 1000000 in
theorem next_any (g K : Nat) (w : World) (h : Src w g K) (hK : K ≤ 1000000000) :
    Calls Try.prog 81 #[.pointer (some ⟨g, 0, none⟩)] w (Draw w g (K + 1) 256) := by
  obtain ⟨A, n, c, k, bs, z, hk, hn, hz, hB, hr⟩ := h
  have hg := hB.lt
  obtain ⟨c0, c1, c2⟩ := hB.three
  have hup := upc w.heap.size w
  by_cases hlt : k < n
  · obtain ⟨b, o, x, rfl, hb, gx, cx⟩ := hr.byte hlt
    have hxx : (x.toNat : Int) < 256 := by have := x.toNat_lt; omega
    have i1 : (0 : Int) ≤ k := by omega
    have i2 : (k : Int) < n := by omega
    have i3 : (k : Int) + 1 ≤ n := by omega
    go_enter Try.func81, Try.ntmps81
    go_wp2_with fail
    refine wp_region_up w.heap.size (by kernel_rfl) (by kernel_rfl) ?_
    repeat (go_big_quiet_step (fail))
    refine wpQuiet_nil ?_
    intro w2 hup_w2
    have hb2 := up_of hup_w2
    have hB2 := hB.next hb2
    have hg2 := hB2.lt
    have hbb2 : b < w2.heap.size := by omega
    obtain ⟨d0, d1, d2⟩ := hB2.three
    have hu2 := upc w2.heap.size w2
    have cx2 := (hb2.cell (p := ⟨b, o + k, none⟩) (by show b < _; omega)).trans cx
    go_wp2_with fail
    refine wp_region_up w2.heap.size (by kernel_rfl) (by kernel_rfl) ?_
    repeat (go_big_quiet_step (fail))
    refine wpQuiet_nil ?_
    intro w3 hup_w3
    have hb3 := up_of hup_w3
    have hB3 := hB2.next hb3
    have hg3 := hB3.lt
    obtain ⟨e0, e1, e2⟩ := hB3.three
    have f3 := hB3.frozen
    go_wp2_with fail
    refine named fun w4 H4 => ?_
    obtain ⟨z', hz', hB4⟩ : ∃ z', U64 z' ∧ Blk w4 g 109 #[.slice (some ⟨b, o, none⟩) n c, .int .i64 ((k + 1 : Nat) : Int), .int .u64 z'] := by
      rw [H4.out]; exact ⟨_, u64_of _, (hB3.set_ 1 _).set_ 2 _⟩
    have hg4 := hB4.lt
    obtain ⟨x0, x1, x2⟩ := hB4.three
    have hu4 := upc w4.heap.size w4
    have hz0 := hz'.1; have hz1 := hz'.2
    clear hu2 hup
    refine wp_region_up w4.heap.size (by kernel_rfl) (by kernel_rfl) ?_
    repeat (go_big_quiet_step (fail))
    refine wpQuiet_nil ?_
    intro w5 hup_w5
    have hb5 := up_of hup_w5
    go_wp2_with fail
    go_ret
    refine ⟨_, rfl, by omega, hxx, ⟨_, n, c, k + 1, bs, z', by omega, hn, hz', hB4.next hb5, ?_⟩, ?_⟩
    · have g4 : w3.grownBy w4 (some g) := by rw [H4.out]; exact gb_setCell (gb_set _ _ _ _) _ _
      exact ((((hr.keep fun p hp => hb2.cell (by omega)).keep fun p hp => hb3.cell (by omega)).grown (by omega) g4 (fun k e => by injection e; omega)).keep fun p hp => hb5.cell (by omega))
    · have g4 : w3.grownBy w4 (some g) := by rw [H4.out]; exact gb_setCell (gb_set _ _ _ _) _ _
      exact gb_next (gb_trans (gb_next (gb_below hb2) hb3) g4) hb5
  · have i2 : (n : Int) ≤ k := by omega
    go_enter Try.func81, Try.ntmps81
    go_wp2_with fail
    refine wp_region_up w.heap.size (by kernel_rfl) (by kernel_rfl) ?_
    repeat (go_big_quiet_step (fail))
    refine wpQuiet_nil ?_
    intro w3 hup_w3
    have hb3 := up_of hup_w3
    have hB3 := hB.next hb3
    have hg3 := hB3.lt
    obtain ⟨e0, e1, e2⟩ := hB3.three
    have f3 := hB3.frozen
    go_wp2_with fail
    refine named fun w4 H4 => ?_
    obtain ⟨z', hz', hB4⟩ : ∃ z', U64 z' ∧ Blk w4 g 109 #[.slice A n c, .int .i64 ((k + 1 : Nat) : Int), .int .u64 z'] := by
      rw [H4.out]; exact ⟨_, u64_of _, (hB3.set_ 1 _).set_ 2 _⟩
    have hg4 := hB4.lt
    obtain ⟨x0, x1, x2⟩ := hB4.three
    have hu4 := upc w4.heap.size w4
    have hz0 := hz'.1; have hz1 := hz'.2
    clear hup
    refine wp_region_up w4.heap.size (by kernel_rfl) (by kernel_rfl) ?_
    repeat (go_big_quiet_step (fail))
    refine wpQuiet_nil ?_
    intro w5 hup_w5
    have hb5 := up_of hup_w5
    have hB5 := hB4.next hb5
    obtain ⟨y0, y1, y2⟩ := hB5.three
    go_wp2_with fail
    go_ret
    have hand := and_255 z' hz0 hz1
    have g4 : w3.grownBy w4 (some g) := by rw [H4.out]; exact gb_setCell (gb_set _ _ _ _) _ _
    exact ⟨_, rfl, hand.1, hand.2, ⟨_, n, c, k + 1, bs, z', by omega, hn, hz', hB5,
      (((hr.keep fun p hp => hb3.cell (by omega)).grown (by omega) g4 (fun k e => by injection e; omega)).keep fun p hp => hb5.cell (by omega))⟩, gb_next (gb_trans (gb_below hb3) g4) hb5⟩
theorem Src.mono {w : World} {g K K' : Nat} (h : Src w g K) (hK : K ≤ K') : Src w g K' := by
  obtain ⟨A, n, c, k, bs, z, h1, h2⟩ := h
  exact ⟨A, n, c, k, bs, z, by omega, h2⟩
theorem Src.next {w w' : World} {g K : Nat} (h : Src w g K) (hb : Below w.heap.size w w') : Src w' g K := by
  obtain ⟨A, n, c, k, bs, z, h1, h2, h3, h4, h5⟩ := h
  have := h4.lt
  exact ⟨A, n, c, k, bs, z, h1, h2, h3, h4.next hb, h5.keep fun p hp => hb.cell (by omega)⟩
theorem Src.lt {w : World} {g K : Nat} (h : Src w g K) : g < w.heap.size := by
  obtain ⟨A, n, c, k, bs, z, h1, h2, h3, h4, h5⟩ := h
  exact h4.lt
/-- a write to another block that lies behind -/
theorem Src.grown {w w' : World} {g K : Nat} {r : Option Nat} (h : Src w g K) (hg : w.grownBy w' r) (hr : ∀ k, r = some k → g < k) : Src w' g K := by
  obtain ⟨A, n, c, k, bs, z, h1, h2, h3, h4, h5⟩ := h
  have := h4.lt
  exact ⟨A, n, c, k, bs, z, h1, h2, h3, h4.grown hg (fun e => by have := hr _ e.symm; omega), h5.grown (by omega) hg (fun k e => by have := hr _ e; omega)⟩

set_option maxHeartbeats 400000 in
theorem pick_any (g K : Nat) (n m : Int) (w : World) (h : Src w g K) (hK : K ≤ 100000000) (hn : n ≤ m) (hm : 1 ≤ m) :
    Calls Try.prog 36 #[.pointer (some ⟨g, 0, none⟩), .int .i64 n] w (Draw w g (K + 2) m) := by
  by_cases h1 : n ≤ 1
  · go_enter Try.func36, Try.ntmps36
    go_wp2_with fail
    go_ret
    exact ⟨0, rfl, by omega, by omega, h.mono (by omega), World.grownBy.refl _ _⟩
  by_cases h2 : n ≤ 200
  · go_enter Try.func36, Try.ntmps36
    go_wp2_with fail
    refine (next_any g K _ h (by omega)).mono ?_
    rintro e w1 ⟨v, rfl, v0, v1, s1, g1⟩
    go_wp2_with fail
    go_ret
    exact ⟨_, rfl, Int.emod_nonneg _ (by omega), by have := Int.emod_lt_of_pos v (show 0 < n by omega); omega, s1.mono (by omega), g1⟩
  · go_enter Try.func36, Try.ntmps36
    go_wp2_with fail
    refine (next_any g K _ h (by omega)).mono ?_
    rintro e w1 ⟨v, rfl, v0, v1, s1, g1⟩
    go_wp2_with fail
    refine (next_any g (K + 1) _ s1 (by omega)).mono ?_
    rintro e w2 ⟨v', rfl, v0', v1', s2, g2⟩
    go_wp2_with fail
    go_ret
    exact ⟨_, rfl, Int.emod_nonneg _ (by omega), by have := Int.emod_lt_of_pos (v * 256 + v') (show 0 < n by omega); omega, s2, gb_trans g1 g2⟩
def DrawB (w : World) (g K : Nat) (e : Ending) (w' : World) : Prop := ∃ b : Bool, e = .returned (.bool b) ∧ Src w' g K ∧ w.grownBy w' (some g)
theorem one_any (g K : Nat) (n : Int) (w : World) (h : Src w g K) (hK : K ≤ 100000000) (hn : n ≤ 1000) :
    Calls Try.prog 58 #[.pointer (some ⟨g, 0, none⟩), .int .i64 n] w (DrawB w g (K + 2)) := by
  go_enter Try.func58, Try.ntmps58
  go_wp2_with fail
  refine (pick_any g K n 1000 _ h hK hn (by omega)).mono ?_
  rintro e w1 ⟨v, rfl, v0, v1, s1, g1⟩
  go_wp2_with fail
  go_ret
  exact ⟨_, rfl, s1, g1⟩
end Go.Proofs.Ytgdbpkpaacbhhaa


/-
  The draw of a plain word: its letters are right, and it is not too long.
-/
namespace Go.Proofs.Ytgdbpkpaacbhhaa
open Go.RowKit

theorem elem_byte : Elem Try.prog 22 5 1 1 := Elem.mk' (z := .int .u8 0) Try.underlying22 (by kernel_rfl) rfl
/-- what the draw of a word leaves -/
def StrDraw (w : World) (g K : Nat) (most : Int) (e : Ending) (w' : World) : Prop :=
  ∃ s : ByteArray, e = .returned (.string s) ∧ (s.size : Int) ≤ most ∧ s.data.toList.all letB = true ∧ Src w' g K ∧ w.grownBy w' (some g)
theorem byteE_of {v : Int} (h0 : 0 ≤ v) (h1 : v < 4) : #[Value.int .u8 (97 + v)].toList = byteE (UInt8.ofNat (97 + v.toNat)) ∧ letB (UInt8.ofNat (97 + v.toNat)) = true := by
  obtain ⟨j, rfl⟩ := Int.eq_ofNat_of_zero_le h0
  have e : (UInt8.ofNat (97 + j)).toNat = 97 + j := by rw [UInt8.toNat_ofNat']; omega
  constructor
  · simp only [byteE, Int.toNat_natCast, e]; simp
  · simp only [letB, Int.toNat_natCast, e]; simp; omega

theorem conv_own {w : World} {base n c : Nat} {A : Option Addr} {bs : List UInt8} (h : w.ownsRow base 5 1 (.slice A n c) n (bs.flatMap byteE)) (hl : bs.length = n) :
    (convert 22 9 (.slice A n c)).run Try.prog w = .ok (.string ⟨bs.toArray⟩) w := by
  subst hl
  cases A with
  | some a =>
    refine run_convert_bytes_back (P := Try.prog) w _ _ 5 a c bs Try.underlying22 Try.underlying5 Try.underlying9 fun j hj => ?_
    obtain ⟨g, cap, hv, _, _⟩ := h.form (by omega)
    obtain rfl := Option.some.inj (show some a = some ⟨g, 0, none⟩ from by injection hv)
    have := h.cells (g := g) rfl j _ (by
      have := flat_at (enc := byteE) (sz := 1) bs (fun _ _ => rfl) j _ (List.getElem?_eq_getElem hj) 0 (by omega)
      rw [Nat.mul_one, Nat.add_zero] at this
      rw [this]; rfl)
    simpa using this
  | none =>
    rcases h.2 with ⟨h1, h2⟩ | ⟨g, cap, cur, hv, _⟩
    · obtain rfl : bs = [] := List.eq_nil_of_length_eq_zero (by omega)
      rw [run_convert_bytes_string w _ _ 5 none _ c Try.underlying22 Try.underlying5 Try.underlying9]
      simp [Conv.bytesToString, go_sem]
      rfl
    · cases hv
theorem ext_let {s : ByteArray} (h : s.data.toList.all letB = true) (i j : Nat) : (s.extract i j).data.toList.all letB = true := by
  rw [ByteArray.data_extract, Array.toList_extract]
  rw [List.all_eq_true] at *
  intro x hx
  exact h x (List.mem_of_mem_drop (List.mem_of_mem_take hx))
end Go.Proofs.Ytgdbpkpaacbhhaa


/-
  A region that draws its order: quiet operations ahead, in an order of ours, and a tail that waits for all of them.
-/
namespace Go.Proofs.Ytgdbpkpaacbhhaa
open Go

section
variable {P : Program} {ops : Array Oper} {md : Region.Mode} {C : World → Prop}

/-- what an operation waits for -/
def depsT (md : Region.Mode) (ops : Array Oper) (j : Nat) : List Nat :=
  match ops[j]? with
  | some o => (o.after.toList.filter fun e => Region.binds md e).map (·.on)
  | none => []
def reachT (md : Region.Mode) (ops : Array Oper) : Nat → List Nat → List Nat
  | 0, s => s
  | k + 1, s => reachT md ops k (s ++ (s.flatMap (depsT md ops)).filter fun x => !s.contains x).eraseDups
/-- every operation that is not ahead waits for all that are -/
def waitB (md : Region.Mode) (ops : Array Oper) (hd : List Nat) : Bool :=
  (List.range ops.size).all fun t => hd.contains t || hd.all fun i => (reachT md ops ops.size [t]).contains i
def seqT (md : Region.Mode) (ops : Array Oper) : List Nat → Array Bool → Bool
  | [], listed => (Region.ready md ops listed).isEmpty
  | t :: tl, listed => decide (Region.ready md ops listed = [t]) && seqT md ops tl (listed.setIfInBounds t true)
def headT (md : Region.Mode) (ops : Array Oper) (tl : List Nat) : List Nat → Array Bool → Bool
  | [], listed => seqT md ops tl listed
  | i :: hd, listed => (Region.ready md ops listed).contains i && Region.free md ops listed i && headT md ops tl hd (listed.setIfInBounds i true)
def tailB (md : Region.Mode) (ops : Array Oper) (hd tl : List Nat) : Bool :=
  Region.noSelect ops && waitB md ops hd && headT md ops tl hd (Array.replicate ops.size false) && decide (hd.length + tl.length = ops.size)

structure InvT (md : Region.Mode) (ops : Array Oper) (listed : Array Bool) : Prop where
  size : listed.size = ops.size
  closed : ∀ j oj, ops[j]? = some oj → listed.getD j false = true → ∀ e ∈ oj.after, Region.binds md e = true → listed.getD e.on false = true
theorem InvT.set {i : Nat} {listed : Array Bool} (inv : InvT md ops listed) (hi : i ∈ Region.ready md ops listed) : InvT md ops (listed.setIfInBounds i true) := by
  obtain ⟨_, oi, hoi, hall⟩ := mem_ready.1 hi
  refine ⟨by simp [inv.size], fun j oj hj hl e he hb => ?_⟩
  by_cases hij : i = j
  · subst hij
    have : oj = oi := Option.some.inj (hj.symm.trans hoi)
    subst this
    exact getD_set_true (hall e he hb)
  · rw [getD_set_ne false hij] at hl
    exact getD_set_true (inv.closed j oj hj hl e he hb)
theorem reachT_in {listed : Array Bool} (inv : InvT md ops listed) {t : Nat} (hr : t ∈ Region.ready md ops listed) : ∀ (k : Nat) (s : List Nat), (∀ x ∈ s, x = t ∨ listed.getD x false = true) → ∀ x ∈ reachT md ops k s, x = t ∨ listed.getD x false = true
  | 0, s, h => h
  | k + 1, s, h => by
    refine reachT_in inv hr k _ fun x hx => ?_
    rw [List.mem_eraseDups] at hx
    rcases List.mem_append.1 hx with hx | hx
    · exact h x hx
    · have hx := (List.mem_filter.1 hx).1
      obtain ⟨y, hy, hxy⟩ := List.mem_flatMap.1 hx
      unfold depsT at hxy
      split at hxy
      · rename_i o ho
        obtain ⟨e, he, rfl⟩ := List.mem_map.1 hxy
        rw [List.mem_filter] at he
        have he1 : e ∈ o.after := by simpa using he.1
        rcases h y hy with rfl | hl
        · obtain ⟨_, ot, hot, hall⟩ := mem_ready.1 hr
          have : o = ot := Option.some.inj (ho.symm.trans hot)
          subst this
          exact .inr (hall e he1 he.2)
        · exact .inr (inv.closed y o ho hl e he1 he.2)
      · simp at hxy
theorem waitT {hd : List Nat} {listed : Array Bool} (hw : waitB md ops hd = true) (inv : InvT md ops listed) {i t : Nat} (hi : i ∈ hd) (hun : listed.getD i true = false) (ht : t ∈ Region.ready md ops listed) : t ∈ hd := by
  obtain ⟨_, ot, hot, _⟩ := mem_ready.1 ht
  have htlt : t < ops.size := (Array.getElem?_eq_some_iff.1 hot).1
  have h1 := List.all_eq_true.1 hw t (List.mem_range.2 htlt)
  simp only [Bool.or_eq_true, List.contains_iff_mem] at h1
  rcases h1 with h1 | h1
  · exact h1
  · have h2 := List.all_eq_true.1 h1 i hi
    have h3 : i ∈ reachT md ops ops.size [t] := by simpa using h2
    rcases reachT_in inv ht _ [t] (fun x hx => .inl (by simpa using hx)) i h3 with rfl | h4
    · exact hi
    · rw [getD_both hun] at h4; cases h4

/-- Whatever order is picked: the operations ahead come first. -/
def wpAnyT (P : Program) (md : Region.Mode) (ops : Array Oper) (C : World → Prop) (hd : List Nat) (L : Array Bool → Act → Prop) : Nat → Array Bool → Act → Prop
  | 0, listed, a => L listed a
  | f + 1, listed, a => Region.ready md ops listed ≠ [] ∧ ∀ i ∈ Region.ready md ops listed, i ∈ hd ∧ qOp P ops C i (wpAnyT P md ops C hd L f (listed.setIfInBounds i true)) a
theorem wpAny_of_headT {hd : List Nat} {g : Nat} {L : Array Bool → Act → Prop} {Q' : Exit → Act → World → Prop} (hL : ∀ listed a w, C w → L listed a → wpAny P md ops Q' g listed a w) :
    ∀ (f : Nat) (listed : Array Bool) (a : Act) (w : World), C w → wpAnyT P md ops C hd L f listed a → wpAny P md ops Q' (f + g) listed a w
  | 0, listed, a, w, hw, h => by rw [Nat.zero_add]; exact hL _ _ _ hw h
  | f + 1, listed, a, w, hw, h => by
    rw [show f + 1 + g = (f + g) + 1 by omega]
    exact ⟨fun h0 => absurd h0 h.1, fun i hi => wpOp_of_qOp hw (fun a' w' hw' => wpAny_of_headT hL f _ a' w' hw') (h.2 i hi).2⟩
theorem wpAnyT_first {hd : List Nat} {i : Nat} {oi : Oper} {v : Value} {L : Array Bool → Act → Prop} (hi : ops[i]? = some oi) (hsel : ∀ (j : Nat) (o : Oper) cs b, ops[j]? = some o → o.op ≠ .select cs b)
    (hw : waitB md ops hd = true) (hin : i ∈ hd) (hdone : ∀ listed a, L listed a → ∀ j ∈ Region.ready md ops listed, j ∉ hd) :
    ∀ (f : Nat) (listed : Array Bool) (a : Act), InvT md ops listed →
      (∀ j oj, ops[j]? = some oj → j ≠ i → listed.getD j true = false → (∀ e ∈ oj.after, Region.binds md e = true → e.on ≠ i) → oi.apart ops oj = true) →
      i ∈ Region.ready md ops listed → YieldsIn P ops C oi v a →
      wpAnyT P md ops C hd L f (listed.setIfInBounds i true) (a.put oi.dst v) → wpAnyT P md ops C hd L (f + 1) listed a := by
  intro f
  induction f with
  | zero =>
    intro listed a inv _ hr hy H
    have hun := (mem_ready.1 hr).1
    refine ⟨fun h => (by rw [h] at hr; cases hr), fun j hj => ?_⟩
    have hjn := waitT hw inv hin hun hj
    refine ⟨hjn, ?_⟩
    by_cases hji : j = i
    · subst hji; exact hy.qOp hi H
    · exact absurd hjn (hdone _ _ H j (ready_mono hj hji))
  | succ f ih =>
    intro listed a inv hfree hr hy H
    have hun := (mem_ready.1 hr).1
    refine ⟨fun h => (by rw [h] at hr; cases hr), fun j hj => ?_⟩
    have hjn := waitT hw inv hin hun hj
    refine ⟨hjn, ?_⟩
    by_cases hji : j = i
    · subst hji; exact hy.qOp hi H
    · have h1 := (H.2 j (ready_mono hj hji)).2
      obtain ⟨hjun, oj, hoj, hall⟩ := mem_ready.1 hj
      have hnot : ∀ e ∈ oj.after, Region.binds md e = true → e.on ≠ i := fun e he hb heq => by
        have h1 := hall e he hb
        rw [heq, getD_both hun] at h1
        cases h1
      have h2 := qOp_put hoj (hfree j oj hoj hji hjun hnot) (fun cs b => hsel i oi cs b hi) (fun cs b => hsel j oj cs b hoj) hy h1
      have hfree' : ∀ k ok, ops[k]? = some ok → k ≠ i → (listed.setIfInBounds j true).getD k true = false →
          (∀ e ∈ ok.after, Region.binds md e = true → e.on ≠ i) → oi.apart ops ok = true := fun k ok hk hki hun hno => by
        refine hfree k ok hk hki ?_ hno
        by_cases hjk : j = k
        · subst hjk; exact hjun
        · rw [getD_set_ne true hjk] at hun; exact hun
      refine qOp_mono (fun a' h3 => ih (listed.setIfInBounds j true) a' (inv.set hj) hfree' (ready_mono hr (Ne.symm hji)) h3.1 ?_) h2
      rw [Array.setIfInBounds_comm _ _ hji]
      exact h3.2
theorem seqT_ready {tl : List Nat} {listed : Array Bool} (h : seqT md ops tl listed = true) : ∀ j ∈ Region.ready md ops listed, j ∈ tl := by
  cases tl with
  | nil => intro j hj; simp only [seqT, List.isEmpty_iff] at h; rw [h] at hj; cases hj
  | cons t tl =>
    intro j hj
    simp only [seqT, Bool.and_eq_true, decide_eq_true_eq] at h
    rw [h.1] at hj
    have : j = t := by simpa using hj
    simp [this]
theorem wpAny_of_seqT {Q' : Exit → Act → World → Prop} : ∀ (tl : List Nat) (l : List Oper) (listed : Array Bool) (a : Act) (w : World), tl.map (fun i => ops[i]?) = l.map some →
    seqT md ops tl listed = true → wpList P ops Q' l a w → wpAny P md ops Q' tl.length listed a w
  | [], [], _, _, _, _, hB, h => ⟨by simpa [seqT] using hB, h⟩
  | [], _ :: _, _, _, _, hl, _, _ => by simp at hl
  | _ :: _, [], _, _, _, hl, _, _ => by simp at hl
  | t :: tl, o :: l, listed, a, w, hl, hB, h => by
    simp only [List.map_cons, List.cons.injEq] at hl
    simp only [List.length_cons, seqT, Bool.and_eq_true, decide_eq_true_eq] at hB ⊢
    refine ⟨fun h1 => (by rw [hB.1] at h1; cases h1), fun i hi => ?_⟩
    rw [hB.1] at hi
    have hik : i = t := by simpa using hi
    subst hik
    have hw : wpOp P ops Q' i (wpList P ops Q' l) a w := by unfold wpOp; simp only [hl.1]; exact h
    exact wpOp_mono (fun a' w' h' => wpAny_of_seqT tl l _ a' w' hl.2 hB.2 h') hw
theorem wpAnyT_lex {hd0 tl : List Nat} {Lq : Act → Prop} (hsel : Region.noSelect ops = true) (hw : waitB md ops hd0 = true) (hdj : ∀ j ∈ tl, j ∉ hd0) :
    ∀ (hd : List Nat) (l : List Oper) (listed : Array Bool) (a : Act), hd.map (fun i => ops[i]?) = l.map some → (∀ i ∈ hd, i ∈ hd0) → InvT md ops listed →
    headT md ops tl hd listed = true → wpQuiet P ops C Lq l a →
    wpAnyT P md ops C hd0 (fun listed' a' => seqT md ops tl listed' = true ∧ Lq a') hd.length listed a
  | [], [], listed, a, _, _, _, hB, h => ⟨by simpa [headT] using hB, h⟩
  | [], _ :: _, _, _, hl, _, _, _, _ => by simp at hl
  | _ :: _, [], _, _, hl, _, _, _, _ => by simp at hl
  | i :: hd, o :: l, listed, a, hl, hin, inv, hB, h => by
    simp only [List.map_cons, List.cons.injEq] at hl
    simp only [headT, Bool.and_eq_true] at hB
    obtain ⟨⟨hr, hf⟩, hB'⟩ := hB
    have hr' : i ∈ Region.ready md ops listed := by simpa using hr
    have hst : qOp P ops C i (wpQuiet P ops C Lq l) a := by unfold qOp; simp only [hl.1]; exact h
    obtain ⟨v, hy, hK⟩ := yieldsIn_of_qOp hl.1 hst
    exact wpAnyT_first hl.1 (Region.noSelect_spec hsel) hw (hin i (by simp)) (fun listed' a' hL j hj => hdj j (seqT_ready hL.1 j hj)) hd.length listed a inv (Region.free_spec hl.1 hf) hr' hy
      (wpAnyT_lex hsel hw hdj hd l _ _ hl.2 (fun j hj => hin j (by simp [hj])) (inv.set hr') hB' hK)
/-- the operations with these numbers -/
def pickT (l : List Oper) : List Nat → List Oper
  | [] => []
  | i :: is => (l.drop i).take 1 ++ pickT l is
theorem pickT_map {l : List Oper} : ∀ {is : List Nat}, (∀ i ∈ is, i < l.length) → is.map (fun i => l.toArray[i]?) = (pickT l is).map some
  | [], _ => rfl
  | i :: is, h => by
    have hi := h i (by simp)
    have e : (l.drop i).take 1 = [l[i]] := by rw [List.drop_eq_getElem_cons hi]; rfl
    have ih := pickT_map (l := l) (is := is) (fun j hj => h j (by simp [hj]))
    rw [List.map_cons, ih]
    show _ = ((l.drop i).take 1 ++ pickT l is).map some
    rw [e]
    simp [hi]
/-- **Quiet operations ahead in the order 'hd', then the tail in the order 'tl'.** -/
theorem wp_region_tail {id : Nat} {Q : Exit → Act → World → Prop} {a : Act} {w : World} {l : List Oper} (C : World → Prop) (hd tl : List Nat) (hm : P.follows .mixedOrders = true)
    (hB : (tailB .any l.toArray hd tl && (hd.all fun i => decide (i < l.length)) && (tl.all fun i => decide (i < l.length)) && (tl.all fun j => !hd.contains j)) = true) (hC : C { w with drawn := w.drawn + 1 })
    (h : wpQuiet P l.toArray C (fun a' => ∀ w', C w' → wpList P l.toArray Q (pickT l tl) a' w') (pickT l hd) a) : (Code.region id l.toArray true).wp P Q a w := by
  simp only [tailB, Bool.and_eq_true, decide_eq_true_eq, List.all_eq_true] at hB
  obtain ⟨⟨⟨⟨⟨⟨hsel, hw⟩, hlex⟩, hlen⟩, hh⟩, ht⟩, hdj⟩ := hB
  have inv0 : InvT .any l.toArray (Array.replicate l.toArray.size false) := ⟨by simp, fun j oj _ hl => (by rw [getD_replicate_false] at hl; cases hl)⟩
  have H := wpAnyT_lex (md := .any) hsel hw (fun j hj => by have := hdj j hj; simpa using this) hd (pickT l hd) _ a (pickT_map hh) (fun _ h => h) inv0 hlex h
  refine wp_region_any hm ?_
  have := wpAny_of_headT (Q' := Q) (g := tl.length) (fun listed a' w' hw' hL => wpAny_of_seqT tl (pickT l tl) listed a' w' (pickT_map ht) hL.1 (hL.2 w' hw')) _ _ _ _ hC H
  rw [hlen] at this
  exact this
end
end Go.Proofs.Ytgdbpkpaacbhhaa


/-
  A region that draws its order: loads are taken first where nobody writes their cells before them.
-/
namespace Go.Proofs.Ytgdbpkpaacbhhaa
open Go

section
variable {P : Program} {ops : Array Oper} {Q : Exit → Act → World → Prop} {md : Region.Mode} {S : World → Prop} {N : List Nat}

def invB (md : Region.Mode) (ops : Array Oper) (listed : Array Bool) : Bool :=
  decide (listed.size = ops.size) && (List.range ops.size).all fun j => !listed.getD j false || (depsT md ops j).all fun i => listed.getD i false
theorem invB_spec {listed : Array Bool} (h : invB md ops listed = true) : InvT md ops listed := by
  simp only [invB, Bool.and_eq_true, decide_eq_true_eq] at h
  refine ⟨h.1, fun j oj hj hl e he hb => ?_⟩
  have hlt : j < ops.size := (Array.getElem?_eq_some_iff.1 hj).1
  have h1 := List.all_eq_true.1 h.2 j (List.mem_range.2 hlt)
  rw [hl] at h1
  simp only [Bool.not_true, Bool.false_or] at h1
  refine List.all_eq_true.1 h1 e.on ?_
  unfold depsT
  rw [hj]
  exact List.mem_map.2 ⟨e, List.mem_filter.2 ⟨by simpa using he, hb⟩, rfl⟩
/-- each operation that waits for 'i' apart, all keep what the load reads -/
def nB (md : Region.Mode) (ops : Array Oper) (N : List Nat) (i : Nat) : Bool :=
  (List.range ops.size).all fun j => decide (j = i) || !N.contains j || (reachT md ops ops.size [j]).contains i
/-- Whatever order is picked from here on; S holds behind each operation that is carried out, those of N apart. -/
def wpAnyN (P : Program) (md : Region.Mode) (ops : Array Oper) (Q : Exit → Act → World → Prop) (S : World → Prop) (N : List Nat) : Nat → Array Bool → Act → World → Prop
  | 0, listed, a, w => Region.ready md ops listed = [] ∧ Q .normal a w
  | fuel + 1, listed, a, w =>
    (Region.ready md ops listed = [] → Q .normal a w) ∧
    ∀ i ∈ Region.ready md ops listed, wpOp P ops Q i (fun a' w' => (N.contains i = false → S w') ∧ wpAnyN P md ops Q S N fuel (listed.setIfInBounds i true) a' w') a w
theorem wpAny_of_N : ∀ (fuel : Nat) (listed : Array Bool) (a : Act) (w : World), wpAnyN P md ops Q S N fuel listed a w → wpAny P md ops Q fuel listed a w
  | 0, _, _, _, h => h
  | fuel + 1, _, _, _, h => ⟨h.1, fun i hi => wpOp_mono (fun a' w' h' => wpAny_of_N fuel _ a' w' h'.2) (h.2 i hi)⟩
theorem wpAnyN_first {i : Nat} {oi : Oper} {v : Value} (hi : ops[i]? = some oi) (hsel : ∀ (j : Nat) (o : Oper) cs b, ops[j]? = some o → o.op ≠ .select cs b)
    (hQ : ∀ c a w, Q (.panic c) (a.put oi.dst v) w → Q (.panic c) a w) (hn : nB md ops N i = true) :
    ∀ (fuel : Nat) (listed : Array Bool) (a : Act) (w : World), InvT md ops listed →
      (∀ j oj, ops[j]? = some oj → j ≠ i → listed.getD j true = false → (∀ e ∈ oj.after, Region.binds md e = true → e.on ≠ i) → oi.apart ops oj = true) →
      i ∈ Region.ready md ops listed → YieldsIf P ops S oi v a → S w →
      wpAnyN P md ops Q S N fuel (listed.setIfInBounds i true) (a.put oi.dst v) w → wpAnyN P md ops Q S N (fuel + 1) listed a w := by
  intro fuel
  induction fuel with
  | zero =>
    intro listed a w _ _ hr hy hS H
    refine ⟨fun h => (by rw [h] at hr; cases hr), fun j hj => ?_⟩
    by_cases hji : j = i
    · subst hji; exact hy.wpOp hi hS ⟨fun _ => hS, H⟩
    · have := ready_mono hj hji
      rw [H.1] at this
      cases this
  | succ fuel ih =>
    intro listed a w inv hfree hr hy hS H
    refine ⟨fun h => (by rw [h] at hr; cases hr), fun j hj => ?_⟩
    by_cases hji : j = i
    · subst hji; exact hy.wpOp hi hS ⟨fun _ => hS, H⟩
    · have h1 := H.2 j (ready_mono hj hji)
      obtain ⟨hjun, oj, hoj, hall⟩ := mem_ready.1 hj
      have hun := (mem_ready.1 hr).1
      have hnot : ∀ e ∈ oj.after, Region.binds md e = true → e.on ≠ i := fun e he hb heq => by
        have h1 := hall e he hb
        rw [heq, getD_both hun] at h1
        cases h1
      have hNj : N.contains j = false := by
        have h2 := List.all_eq_true.1 hn j (List.mem_range.2 (Array.getElem?_eq_some_iff.1 hoj).1)
        simp only [Bool.or_eq_true, decide_eq_true_eq, Bool.not_eq_true'] at h2
        rcases h2 with (h2 | h2) | h2
        · exact absurd h2 hji
        · exact h2
        · have h3 : i ∈ reachT md ops ops.size [j] := by simpa using h2
          rcases reachT_in inv hj _ [j] (fun x hx => .inl (by simpa using hx)) i h3 with h4 | h4
          · exact absurd h4.symm hji
          · rw [getD_both hun] at h4; cases h4
      have h2 := wpOp_putIf hoj (hfree j oj hoj hji hjun hnot) (fun cs b => hsel i oi cs b hi) (fun cs b => hsel j oj cs b hoj) hQ hy h1
      have hfree' : ∀ k ok, ops[k]? = some ok → k ≠ i → (listed.setIfInBounds j true).getD k true = false →
          (∀ e ∈ ok.after, Region.binds md e = true → e.on ≠ i) → oi.apart ops ok = true := fun k ok hk hki hun hno => by
        refine hfree k ok hk hki ?_ hno
        by_cases hjk : j = k
        · subst hjk; exact hjun
        · rw [getD_set_ne true hjk] at hun; exact hun
      refine wpOp_mono (fun a' w' h3 => ⟨h3.2.1, ih (listed.setIfInBounds j true) a' w' (inv.set hj) hfree' (ready_mono hr (Ne.symm hji)) h3.1 (h3.2.1 hNj) ?_⟩) h2
      rw [Array.setIfInBounds_comm _ _ hji]
      exact h3.2.2
def takeB (md : Region.Mode) (ops : Array Oper) (N : List Nat) (listed : Array Bool) (i : Nat) : Bool :=
  Region.noSelect ops && (Region.free md ops listed i && ((Region.ready md ops listed).contains i && (nB md ops N i && invB md ops listed)))
/-- Take number 'i' first. -/
theorem wpAnyN_take {i : Nat} {oi : Oper} {v : Value} {fuel : Nat} {listed : Array Bool} {a : Act} {w : World} (hi : ops[i]? = some oi) (hB : takeB md ops N listed i = true)
    (hQ : ∀ c a w, Q (.panic c) (a.put oi.dst v) w → Q (.panic c) a w) (hw : Region.wanted oi (yielded ops a.tmps) = true) (hy : ∀ w, S w → (execOp a.eval oi).run P w = .ok (.value v) w) (hS : S w)
    (h : wpAnyN P md ops Q S N fuel (listed.setIfInBounds i true) (a.put oi.dst v) w) : wpAnyN P md ops Q S N (fuel + 1) listed a w := by
  simp only [takeB, Bool.and_eq_true] at hB
  obtain ⟨h1, h2, h3, h4, h5⟩ := hB
  exact wpAnyN_first hi (Region.noSelect_spec h1) hQ h4 fuel listed a w (invB_spec h5) (Region.free_spec hi h2) (by simpa using h3) (.inl ⟨hw, hy⟩) hS h
/-- The one that comes up. -/
theorem wpAnyN_next {i : Nat} {o : Oper} {fuel : Nat} {listed : Array Bool} {a : Act} {w : World} (ho : ops[i]? = some o) (hr : Region.ready md ops listed = [i])
    (h : ∀ K' : Act → World → Prop, Shut (∀ a w, (N.contains i = false → S w) → wpAnyN P md ops Q S N fuel (listed.setIfInBounds i true) a w → K' a w) → if Region.wanted o (yielded ops a.tmps) = true then Oper.wp P o a w K' Q else K' (a.put o.dst undef) w) :
    wpAnyN P md ops Q S N (fuel + 1) listed a w := by
  refine ⟨fun h0 => (by rw [h0] at hr; cases hr), fun j hj => ?_⟩
  rw [hr] at hj
  obtain rfl : j = i := by simpa using hj
  exact wpOp_step ho (fun K' hK => h K' (fun a w hS hW => hK a w ⟨hS, hW⟩))
theorem wpAnyN_done {listed : Array Bool} {a : Act} {w : World} (hr : Region.ready md ops listed = []) (h : Q .normal a w) : ∀ fuel, wpAnyN P md ops Q S N fuel listed a w
  | 0 => ⟨hr, h⟩
  | _ + 1 => ⟨fun _ => h, by rw [hr]; simp⟩
theorem wp_region_N {id : Nat} {a : Act} {w : World} (S : World → Prop) (N : List Nat) (hm : P.follows .mixedOrders = true)
    (h : wpAnyN P .any ops Q S N ops.size (Array.replicate ops.size false) a w.drew) : (Code.region id ops true).wp P Q a w :=
  wp_region_any hm (wpAny_of_N _ _ _ _ h)
end
end Go.Proofs.Ytgdbpkpaacbhhaa


/-
  A region that draws its order, in which two or three operations that write may come up; a copy into a new row.
-/
namespace Go.Proofs.Ytgdbpkpaacbhhaa
open Go.RowKit

section
variable {P : Program} {ops : Array Oper} {Q : Exit → Act → World → Prop} {md : Region.Mode} {S : World → Prop} {N : List Nat}
/-- what is to be shown of one that comes up -/
def UpN (P : Program) (ops : Array Oper) (Q : Exit → Act → World → Prop) (md : Region.Mode) (S : World → Prop) (N : List Nat) (fuel : Nat) (listed : Array Bool) (a : Act) (w : World) (i : Nat) (o : Oper) : Prop :=
  ∀ K' : Act → World → Prop, Shut (∀ a w, (N.contains i = false → S w) → wpAnyN P md ops Q S N fuel (listed.setIfInBounds i true) a w → K' a w) → if Region.wanted o (yielded ops a.tmps) = true then Oper.wp P o a w K' Q else K' (a.put o.dst undef) w
theorem wpAnyN_2 {i j : Nat} {o o' : Oper} {fuel : Nat} {listed : Array Bool} {a : Act} {w : World} (ho : ops[i]? = some o) (ho' : ops[j]? = some o') (hr : Region.ready md ops listed = [i, j])
    (h : UpN P ops Q md S N fuel listed a w i o) (h' : UpN P ops Q md S N fuel listed a w j o') : wpAnyN P md ops Q S N (fuel + 1) listed a w := by
  refine ⟨fun h0 => (by rw [h0] at hr; cases hr), fun k hk => ?_⟩
  rw [hr] at hk
  rcases List.mem_cons.1 hk with rfl | hk
  · exact wpOp_step ho (fun K' hK => h K' (fun a w hS hW => hK a w ⟨hS, hW⟩))
  · obtain rfl : k = j := by simpa using hk
    exact wpOp_step ho' (fun K' hK => h' K' (fun a w hS hW => hK a w ⟨hS, hW⟩))
theorem wpAnyN_3 {i j l : Nat} {o o' o'' : Oper} {fuel : Nat} {listed : Array Bool} {a : Act} {w : World} (ho : ops[i]? = some o) (ho' : ops[j]? = some o') (ho'' : ops[l]? = some o'') (hr : Region.ready md ops listed = [i, j, l])
    (h : UpN P ops Q md S N fuel listed a w i o) (h' : UpN P ops Q md S N fuel listed a w j o') (h'' : UpN P ops Q md S N fuel listed a w l o'') : wpAnyN P md ops Q S N (fuel + 1) listed a w := by
  refine ⟨fun h0 => (by rw [h0] at hr; cases hr), fun k hk => ?_⟩
  rw [hr] at hk
  rcases List.mem_cons.1 hk with rfl | hk
  · exact wpOp_step ho (fun K' hK => h K' (fun a w hS hW => hK a w ⟨hS, hW⟩))
  · rcases List.mem_cons.1 hk with rfl | hk
    · exact wpOp_step ho' (fun K' hK => h' K' (fun a w hS hW => hK a w ⟨hS, hW⟩))
    · obtain rfl : k = l := by simpa using hk
      exact wpOp_step ho'' (fun K' hK => h'' K' (fun a w hS hW => hK a w ⟨hS, hW⟩))
end
section
variable {α : Type} {P : Program} {w : World} {ops : Array Oper} {o : Oper} {a : Act} {K : Act → World → Prop} {Q : Exit → Act → World → Prop} {E : Prop}
/-- all elements into a new row, as a step of a region that draws its order; where the row lies then -/
theorem step_copyL (hgd : o.guard = none) (s x : Operand) (t : TypeId) (ho : o.op = .call { callee := .builtin .append, args := #[s, x], argTypes := #[t, t] })
    (base : Nat) (e : TypeId) (sz bytes : Nat) (EI : Elem P t e sz bytes) (enc : α → List Value) (e0 : Nat) (hs : a.eval s = .slice (some ⟨e0, 0, none⟩) 0 0)
    (hown : w.ownsRow base e sz (.slice (some ⟨e0, 0, none⟩) 0 0) 0 []) (ad : Addr) (m cc : Nat) (ys : List α) (hx : a.eval x = .slice (some ad) m cc) (hym : ys.length = m) (hm0 : 0 < m) (hnews : ∀ j u, (ys.flatMap enc)[j]? = some u → w.cell? (ad.add j) = some u)
    (hlen : ∀ y ∈ ys, (enc y).length = sz) (hone : ∀ y ∈ ys, ∀ u ∈ enc y, u.oneCell' = true) (hsz : 0 < sz) (hbytes : m * bytes ≤ 140737488355328) (hm : m ≤ maxLen) (hsize : base ≤ w.heap.size)
    (h : ∀ A' c' w', w'.ownsRow base e sz (.slice A' m c') m (ys.flatMap enc) → w.grownBy w' (some e0) → ((Value.slice A' m c').ownBlock = some e0 ∨ (Value.slice A' m c').ownBlock = some w.heap.size) → K (a.put o.dst (.slice A' m c')) w') :
    if Region.wanted o (yielded ops a.tmps) = true then Oper.wp P o a w K Q else E := by
  obtain ⟨ht, i, z, hi, hz, h1, h2, hzs⟩ := EI
  obtain ⟨v', w', hr, r2, r3, _, r5⟩ := run_append_own_at (P := P) w base t o.type e i z sz bytes ht hi hz h1 h2 hzs hsz _ 0 _ hown ad m cc (ys.flatMap enc) (by rw [flat_len ys hlen, hym]) hnews
    (fun u hu => by obtain ⟨y, hy, hu⟩ := List.mem_flatMap.1 hu; exact hone y hy u hu) (by omega) (by rw [Nat.zero_add]; exact hbytes) hsize
  rw [Nat.zero_add, List.nil_append] at r2
  obtain ⟨g', cap, rfl, _, _⟩ := r2.form (by omega)
  have hw : Region.wanted o (yielded ops a.tmps) = true := by simp [Region.wanted, hgd]
  rw [if_pos hw]
  unfold Oper.wp execOp
  simp only [ho, resolve, invoke, builtin, Sem.run_bind, Sem.run_pure, Result.andThen_ok, List.map_toArray, List.map_cons, List.map_nil, hs, hx, hr]
  exact h _ _ w' r2 r3 r5
end
end Go.Proofs.Ytgdbpkpaacbhhaa


/-
  The grammar of a plain word in the program: the small functions.
-/
namespace Go.Proofs.Ytgdbpkpaacbhhaa
open Go.RowKit

theorem conv_letter (W : World) (g c : Nat) (b : UInt8) (h : W.cell? ⟨g, 0, none⟩ = some (.int .u8 (b.toNat : Int))) : (convert 22 9 (.slice (some ⟨g, 0, none⟩) 1 c)).run Try.prog W = .ok (.string ⟨#[b]⟩) W := by
  refine run_convert_bytes_back (P := Try.prog) W _ _ 5 ⟨g, 0, none⟩ c [b] Try.underlying22 Try.underlying5 Try.underlying9 fun j hj => ?_
  obtain rfl : j = 0 := by simpa using hj
  simp [Addr.add, h]
theorem indexByte_mem (l : List UInt8) (c : UInt8) : (0 ≤ Lib.indexByte l c) ↔ c ∈ l := by
  induction l with
  | nil => simp [Lib.indexByte]
  | cons b l ih =>
    unfold Lib.indexByte
    have := Lib.indexByte_ge l c
    by_cases hb : b = c
    · simp [hb]
    · have hb' : (b == c) = false := by simpa using hb
      rw [hb']
      simp only [Bool.false_eq_true, if_false, List.mem_cons, (Ne.symm hb : c ≠ b), false_or, ← ih]
      by_cases h1 : Lib.indexByte l c = -1
      · simp [h1]
      · have : (Lib.indexByte l c == -1) = false := by simpa using h1
        rw [this]; simp; omega
end Go.Proofs.Ytgdbpkpaacbhhaa


/-
  Level grammars: the plain part: rules with their depths, and how two level rules are made one.
-/
namespace Go.Proofs.Ytgdbpkpaacbhhaa

structure LvS where
  rs : List Fac
  ds : List Int
def lvD (s : LvS) (k : Int) : Int := s.ds.getD k.toNat 0
def lvR (s : LvS) (k : Int) : Fac := s.rs.getD k.toNat default
def lvDep (s : LvS) (r : Fac) : Int := if r.l.size = 0 then max (lvD s r.a) (lvD s r.b) + 1 else 1
/-- a rule, added if it is not there -/
def lvRule (s : LvS) (r : Fac) : LvS × Int := if r ∈ s.rs then (s, ((s.rs.idxOf r : Nat) : Int)) else (⟨s.rs ++ [r], s.ds ++ [lvDep s r]⟩, (s.rs.length : Int))
def lvPair (s : LvS) (a b : Int) : LvS × Int := lvRule s ⟨⟨#[]⟩, a, b⟩
def lvLeft (s : LvS) (a z : Int) : LvS × Int :=
  if lvD s z ≤ lvD s a + 1 then lvPair s a z
  else if lvD s (lvR s z).a ≤ lvD s (lvR s z).b then lvPair (lvPair s a (lvR s z).a).1 (lvPair s a (lvR s z).a).2 (lvR s z).b
  else lvPair (lvPair (lvPair s a (lvR s (lvR s z).a).a).1 (lvR s (lvR s z).a).b (lvR s z).b).1 (lvPair s a (lvR s (lvR s z).a).a).2 (lvPair (lvPair s a (lvR s (lvR s z).a).a).1 (lvR s (lvR s z).a).b (lvR s z).b).2
def lvRight (s : LvS) (a z : Int) : LvS × Int :=
  if lvD s z ≤ lvD s a + 1 then lvPair s z a
  else if lvD s (lvR s z).b ≤ lvD s (lvR s z).a then lvPair (lvPair s (lvR s z).b a).1 (lvR s z).a (lvPair s (lvR s z).b a).2
  else lvPair (lvPair (lvPair s (lvR s z).a (lvR s (lvR s z).b).a).1 (lvR s (lvR s z).b).b a).1 (lvPair s (lvR s z).a (lvR s (lvR s z).b).a).2 (lvPair (lvPair s (lvR s z).a (lvR s (lvR s z).b).a).1 (lvR s (lvR s z).b).b a).2
def lvLevel : Nat → LvS → Int → Int → LvS × Int
  | 0, s, l, r => lvPair s l r
  | f + 1, s, l, r =>
    if 1 < lvD s l - lvD s r then lvLeft (lvLevel f s (lvR s l).b r).1 (lvR s l).a (lvLevel f s (lvR s l).b r).2
    else if lvD s l - lvD s r < -1 then lvRight (lvLevel f s l (lvR s r).a).1 (lvR s r).b (lvLevel f s l (lvR s r).a).2
    else lvPair s l r
/-- what holds of rules and depths -/
structure LvI (s : LvS) : Prop where
  len : s.ds.length = s.rs.length
  wf : WF s.rs
  dep : ∀ (k : Nat) (r : Fac), s.rs[k]? = some r → lvD s (k : Int) = lvDep s r
  lo : ∀ k : Nat, k < s.rs.length → 1 ≤ lvD s (k : Int) ∧ lvD s (k : Int) ≤ (k : Int) + 1
def Idx (s : LvS) (k : Int) : Prop := 0 ≤ k ∧ k < (s.rs.length : Int)
theorem LvI.get {s : LvS} (h : LvI s) {k : Int} (hk : Idx s k) : s.rs[k.toNat]? = some (lvR s k) := by
  unfold lvR
  rw [List.getD_eq_getElem?_getD, List.getElem?_eq_getElem (by have := hk.2; have := hk.1; omega)]; rfl
/-- a deep rule is a pair -/
theorem LvI.deep {s : LvS} (h : LvI s) {k : Int} (hk : Idx s k) (hd : 1 < lvD s k) : (lvR s k).l.size = 0 ∧ Idx s (lvR s k).a ∧ Idx s (lvR s k).b ∧ (lvR s k).a < k ∧ (lvR s k).b < k ∧ lvD s k = max (lvD s (lvR s k).a) (lvD s (lvR s k).b) + 1 := by
  have hg := h.get hk
  have h1 := h.dep _ _ hg
  have e : ((k.toNat : Nat) : Int) = k := by have := hk.1; omega
  rw [e] at h1
  rcases h.wf _ _ hg with ⟨h0, ha0, ha1, hb0, hb1⟩ | ⟨c, _, hl, _⟩
  · have := hk.2
    unfold lvDep at h1
    rw [if_pos h0] at h1
    exact ⟨h0, ⟨ha0, by omega⟩, ⟨hb0, by omega⟩, by omega, by omega, h1⟩
  · exfalso
    unfold lvDep at h1
    rw [if_neg (by rw [hl]; show ¬ (1 : Nat) = 0; omega)] at h1
    omega
/-- what an operation does -/
structure LvO (s : LvS) (t : LvS × Int) (g : Nat) : Prop where
  i : LvI t.1
  ext : ∃ er ed, t.1.rs = s.rs ++ er ∧ t.1.ds = s.ds ++ ed
  ix : Idx t.1 t.2
  len : t.1.rs.length ≤ s.rs.length + g
theorem LvO.grow {s : LvS} {t : LvS × Int} {g : Nat} (h : LvO s t g) : s.rs.length ≤ t.1.rs.length := by
  obtain ⟨er, ed, h1, _⟩ := h.ext
  rw [h1, List.length_append]; omega
theorem LvO.idx {s : LvS} {t : LvS × Int} {g : Nat} (h : LvO s t g) {k : Int} (hk : Idx s k) : Idx t.1 k := ⟨hk.1, by have := h.grow; have := hk.2; omega⟩
theorem LvO.r {s : LvS} {t : LvS × Int} {g : Nat} (h : LvO s t g) {k : Int} (hk : Idx s k) : lvR t.1 k = lvR s k := by
  obtain ⟨er, ed, h1, _⟩ := h.ext
  unfold lvR
  rw [h1, List.getD_eq_getElem?_getD, List.getD_eq_getElem?_getD, List.getElem?_append_left (by have := hk.1; have := hk.2; omega)]
theorem LvO.d {s : LvS} {t : LvS × Int} {g : Nat} (hs : LvI s) (h : LvO s t g) {k : Int} (hk : Idx s k) : lvD t.1 k = lvD s k := by
  obtain ⟨er, ed, _, h2⟩ := h.ext
  unfold lvD
  rw [h2, List.getD_eq_getElem?_getD, List.getD_eq_getElem?_getD, List.getElem?_append_left (by have := hk.1; have := hk.2; have := hs.len; omega)]
theorem LvO.trans {s : LvS} {t u : LvS × Int} {g1 g2 : Nat} (h1 : LvO s t g1) (h2 : LvO t.1 u g2) : LvO s u (g1 + g2) := by
  obtain ⟨e1, d1, a1, b1⟩ := h1.ext
  obtain ⟨e2, d2, a2, b2⟩ := h2.ext
  exact ⟨h2.i, ⟨e1 ++ e2, d1 ++ d2, by rw [a2, a1, List.append_assoc], by rw [b2, b1, List.append_assoc]⟩, h2.ix, by have := h1.len; have := h2.len; omega⟩
theorem LvO.more {s : LvS} {t : LvS × Int} {g g' : Nat} (h : LvO s t g) (hg : g ≤ g') : LvO s t g' := ⟨h.i, h.ext, h.ix, by have := h.len; omega⟩
/-- what may be added -/
def RuleOk (s : LvS) (r : Fac) : Prop := (r.l.size = 0 ∧ Idx s r.a ∧ Idx s r.b) ∨ (∃ c, letB c = true ∧ r.l = ⟨#[c]⟩ ∧ r.a = 0 ∧ r.b = 0)
theorem lvRule_do {s : LvS} (h : LvI s) {r : Fac} (hr : RuleOk s r) : LvO s (lvRule s r) 1 := by
  unfold lvRule
  split
  · rename_i hm
    have := List.idxOf_lt_length_of_mem hm
    exact ⟨h, ⟨[], [], by simp, by simp⟩, ⟨by simp, by simp only; omega⟩, by simp⟩
  · rename_i hm
    have hl := h.len
    have hdd : 1 ≤ lvDep s r ∧ lvDep s r ≤ (s.rs.length : Int) + 1 := by
      unfold lvDep
      rcases hr with ⟨h0, ha, hb⟩ | ⟨c, _, hl2, _⟩
      · rw [if_pos h0]
        have e1 := h.lo r.a.toNat (by have := ha.1; have := ha.2; omega)
        have e2 := h.lo r.b.toNat (by have := hb.1; have := hb.2; omega)
        rw [show ((r.a.toNat : Nat) : Int) = r.a by have := ha.1; omega] at e1
        rw [show ((r.b.toNat : Nat) : Int) = r.b by have := hb.1; omega] at e2
        have := ha.2; have := hb.2
        omega
      · rw [if_neg (by rw [hl2]; show ¬ (1 : Nat) = 0; omega)]; omega
    obtain ⟨dd, hdn⟩ : ∃ dd, lvDep s r = dd := ⟨_, rfl⟩
    rw [hdn] at hdd ⊢
    have old : ∀ k : Int, Idx s k → lvD ⟨s.rs ++ [r], s.ds ++ [dd]⟩ k = lvD s k := fun k hk => by
      unfold lvD
      rw [List.getD_eq_getElem?_getD, List.getD_eq_getElem?_getD, List.getElem?_append_left (by have := hk.1; have := hk.2; omega)]
    have new : lvD ⟨s.rs ++ [r], s.ds ++ [dd]⟩ (s.rs.length : Int) = dd := by
      unfold lvD
      rw [List.getD_eq_getElem?_getD, Int.toNat_natCast, ← hl, List.getElem?_append_right (Nat.le_refl _), Nat.sub_self]; rfl
    have dold : ∀ q : Fac, (q.l.size = 0 → Idx s q.a ∧ Idx s q.b) → lvDep ⟨s.rs ++ [r], s.ds ++ [dd]⟩ q = lvDep s q := fun q hq => by
      unfold lvDep
      by_cases h0 : q.l.size = 0
      · rw [if_pos h0, if_pos h0, old _ (hq h0).1, old _ (hq h0).2]
      · rw [if_neg h0, if_neg h0]
    refine ⟨⟨by simp [hl], ?_, ?_, ?_⟩, ⟨[r], [dd], rfl, rfl⟩, ⟨by simp, by simp only [List.length_append, List.length_singleton]; omega⟩, by simp⟩
    · intro k q hq
      by_cases hk : k < s.rs.length
      · rw [List.getElem?_append_left hk] at hq; exact h.wf k q hq
      · have hk2 : k = s.rs.length := by have := (List.getElem?_eq_some_iff.1 hq).1; simp at this; omega
        subst hk2
        simp at hq; subst hq
        rcases hr with ⟨h0, ha, hb⟩ | hc
        · exact .inl ⟨h0, ha.1, ha.2, hb.1, hb.2⟩
        · exact .inr hc
    · intro k q hq
      by_cases hk : k < s.rs.length
      · rw [List.getElem?_append_left hk] at hq
        rw [old k ⟨by omega, by omega⟩, h.dep k q hq, dold]
        intro h0
        rcases h.wf k q hq with ⟨_, ha0, ha1, hb0, hb1⟩ | ⟨c, _, hl2, _⟩
        · exact ⟨⟨ha0, by omega⟩, ⟨hb0, by omega⟩⟩
        · rw [hl2] at h0; exact absurd h0 (show ¬ (1 : Nat) = 0 by omega)
      · have hk2 : k = s.rs.length := by have := (List.getElem?_eq_some_iff.1 hq).1; simp at this; omega
        subst hk2
        simp at hq; subst hq
        rw [new, dold, hdn]
        intro h0
        rcases hr with ⟨_, ha, hb⟩ | ⟨c, _, hl2, _⟩
        · exact ⟨ha, hb⟩
        · rw [hl2] at h0; exact absurd h0 (show ¬ (1 : Nat) = 0 by omega)
    · intro k hk
      by_cases hk' : k < s.rs.length
      · rw [old k ⟨by omega, by omega⟩]; exact h.lo k hk'
      · have hk2 : k = s.rs.length := by simp at hk; omega
        subst hk2
        rw [new]; exact hdd
theorem lvPair_do {s : LvS} (h : LvI s) {a b : Int} (ha : Idx s a) (hb : Idx s b) : LvO s (lvPair s a b) 1 := lvRule_do h (.inl ⟨rfl, ha, hb⟩)
theorem lvLeft_do {s : LvS} (h : LvI s) {a z : Int} (ha : Idx s a) (hz : Idx s z) : LvO s (lvLeft s a z) 3 := by
  have da := h.lo a.toNat (by have := ha.1; have := ha.2; omega)
  rw [show ((a.toNat : Nat) : Int) = a by have := ha.1; omega] at da
  unfold lvLeft
  split
  · exact (lvPair_do h ha hz).more (by omega)
  · rename_i h1
    obtain ⟨_, hc, hd, _, _, _⟩ := h.deep hz (by omega)
    have dd := h.lo (lvR s z).b.toNat (by have := hd.1; have := hd.2; omega)
    rw [show (((lvR s z).b.toNat : Nat) : Int) = (lvR s z).b by have := hd.1; omega] at dd
    split
    · have o1 := lvPair_do h ha hc
      exact (o1.trans (lvPair_do o1.i o1.ix (o1.idx hd))).more (by omega)
    · rename_i h2
      obtain ⟨_, he, hf, _, _, _⟩ := h.deep hc (by omega)
      have o1 := lvPair_do h ha he
      have o2 := lvPair_do o1.i (o1.idx hf) (o1.idx hd)
      exact ((o1.trans o2).trans (lvPair_do o2.i (o2.idx o1.ix) o2.ix)).more (by omega)
theorem lvRight_do {s : LvS} (h : LvI s) {a z : Int} (ha : Idx s a) (hz : Idx s z) : LvO s (lvRight s a z) 3 := by
  have da := h.lo a.toNat (by have := ha.1; have := ha.2; omega)
  rw [show ((a.toNat : Nat) : Int) = a by have := ha.1; omega] at da
  unfold lvRight
  split
  · exact (lvPair_do h hz ha).more (by omega)
  · rename_i h1
    obtain ⟨_, hd, hc, _, _, _⟩ := h.deep hz (by omega)
    have dd := h.lo (lvR s z).a.toNat (by have := hd.1; have := hd.2; omega)
    rw [show (((lvR s z).a.toNat : Nat) : Int) = (lvR s z).a by have := hd.1; omega] at dd
    split
    · have o1 := lvPair_do h hc ha
      exact (o1.trans (lvPair_do o1.i (o1.idx hd) o1.ix)).more (by omega)
    · rename_i h2
      obtain ⟨_, hf, he, _, _, _⟩ := h.deep hc (by omega)
      have o1 := lvPair_do h hd hf
      have o2 := lvPair_do o1.i (o1.idx he) (o1.idx ha)
      exact ((o1.trans o2).trans (lvPair_do o2.i (o2.idx o1.ix) o2.ix)).more (by omega)
theorem lvLevel_do : ∀ (f : Nat) {s : LvS} (_ : LvI s) {l r : Int} (_ : Idx s l) (_ : Idx s r), l + r ≤ f → LvO s (lvLevel f s l r) (3 * f + 1)
  | 0, s, h, l, r, hl, hr, hf => (lvPair_do h hl hr).more (by omega)
  | f + 1, s, h, l, r, hl, hr, hf => by
    have d1 := h.lo l.toNat (by have := hl.1; have := hl.2; omega)
    have d2 := h.lo r.toNat (by have := hr.1; have := hr.2; omega)
    rw [show ((l.toNat : Nat) : Int) = l by have := hl.1; omega] at d1
    rw [show ((r.toNat : Nat) : Int) = r by have := hr.1; omega] at d2
    unfold lvLevel
    split
    · obtain ⟨_, ha, hb, ha2, hb2, _⟩ := h.deep hl (by omega)
      have o1 := lvLevel_do f h hb hr (by omega)
      exact (o1.trans (lvLeft_do o1.i (o1.idx ha) o1.ix)).more (by omega)
    · split
      · obtain ⟨_, ha, hb, ha2, hb2, _⟩ := h.deep hr (by omega)
        have o1 := lvLevel_do f h hl ha (by omega)
        exact (o1.trans (lvRight_do o1.i (o1.idx hb) o1.ix)).more (by omega)
      · exact (lvPair_do h hl hr).more (by omega)
end Go.Proofs.Ytgdbpkpaacbhhaa


/-
  Level grammars: rules and depths in memory, what a call leaves as it was.
-/
namespace Go.Proofs.Ytgdbpkpaacbhhaa
open Go.RowKit

section
variable {α : Type} {P : Program} {w : World} {ops : Array Oper} {o : Oper} {a : Act} {K : Act → World → Prop} {Q : Exit → Act → World → Prop} {E : Prop}
/-- one element more, as a step of a region that draws its order; where the row lies then -/
theorem step_pushL (hgd : o.guard = none) (s x : Operand) (t : TypeId) (ho : o.op = .call { callee := .builtin .append, args := #[s, x], argTypes := #[t, t] })
    (base : Nat) (e : TypeId) (sz bytes : Nat) (EI : Elem P t e sz bytes) (enc : α → List Value) (A : Option Addr) (n c : Nat) (xs : List α) (hs : a.eval s = .slice A n c)
    (hown : w.ownsRow base e sz (.slice A n c) n (xs.flatMap enc)) (g : Nat) (y : α) (cs : Array Value) (t' : TypeId) (fr : Nat × Nat) (hx : a.eval x = .slice (some ⟨g, 0, none⟩) 1 1) (hg : w.heap[g]? = some (.cells cs t' fr)) (hcs : cs.toList = enc y)
    (hlen : (enc y).length = sz) (hone : ∀ u ∈ enc y, u.oneCell' = true) (hsz : 0 < sz) (hbytes : (n + 1) * bytes ≤ 140737488355328) (hm : n + 1 ≤ maxLen) (hsize : base ≤ w.heap.size)
    (h : ∀ A' c' w', w'.ownsRow base e sz (.slice A' (n + 1) c') (n + 1) ((xs ++ [y]).flatMap enc) → w.grownBy w' (Value.slice A n c).ownBlock →
      ((Value.slice A' (n + 1) c').ownBlock = (Value.slice A n c).ownBlock ∨ (Value.slice A' (n + 1) c').ownBlock = some w.heap.size) →
      K (a.put o.dst (.slice A' (n + 1) c')) w') : if Region.wanted o (yielded ops a.tmps) = true then Oper.wp P o a w K Q else E := by
  obtain ⟨ht, i, z, hi, hz, h1, h2, hzs⟩ := EI
  have hnews : ∀ j u, (enc y)[j]? = some u → w.cell? ((⟨g, 0, none⟩ : Addr).add j) = some u := by rw [← hcs]; exact World.news_of_block hg
  obtain ⟨v', w', hr, r2, r3, _, r5⟩ := run_append_own_at (P := P) w base t o.type e i z sz bytes ht hi hz h1 h2 hzs hsz _ n _ hown ⟨g, 0, none⟩ 1 1 (enc y) (by rw [hlen]; omega) hnews hone hm hbytes hsize
  obtain ⟨g', cap, rfl, _, _⟩ := r2.form (by omega)
  have hw : Region.wanted o (yielded ops a.tmps) = true := by simp [Region.wanted, hgd]
  rw [if_pos hw]
  unfold Oper.wp execOp
  simp only [ho, resolve, invoke, builtin, Sem.run_bind, Sem.run_pure, Result.andThen_ok, List.map_toArray, List.map_cons, List.map_nil, hs, hx, hr]
  exact h _ _ w' (by rw [List.flatMap_append]; simpa using r2) r3 r5
end
/-- rules and depths, in a box of type T whose third cell is z -/
structure LvG (T : TypeId) (w0 W : World) (X : Nat) (z : Value) (A : Option Addr) (n c : Nat) (B : Option Addr) (m d : Nat) (rs : List Fac) (ds : List Int) : Prop where
  q : W.ownsRow w0.heap.size 82 3 (.slice A n c) n (rs.flatMap Fac.cells)
  k : W.ownsRow w0.heap.size 2 1 (.slice B m d) m (ds.flatMap intE)
  x : Blk W X T #[.slice A n c, .slice B m d, z]
  e : Below w0.heap.size w0 W
  hx : w0.heap.size ≤ X
  t1 : 82 ≠ T
  t2 : 2 ≠ T
/-- what a call leaves as it was: all but the box, the map and the two rows -/
structure LvF (W W' : World) (X M : Nat) (v v' u u' : Value) : Prop where
  size : W.heap.size ≤ W'.heap.size
  kept : ∀ x, x < W.heap.size → x ≠ X → x ≠ M → some x ≠ v.ownBlock → some x ≠ u.ownBlock → W'.heap[x]? = W.heap[x]?
  row : v'.ownBlock = v.ownBlock ∨ ∀ x, v'.ownBlock = some x → W.heap.size ≤ x
  row' : u'.ownBlock = u.ownBlock ∨ ∀ x, u'.ownBlock = some x → W.heap.size ≤ x
section
variable {w0 W W' W'' : World} {X M : Nat} {v v' v'' u u' u'' : Value}
theorem LvF.of_below (hb : Below W.heap.size W W') : LvF W W' X M v v u u := ⟨hb.size, fun x hx _ _ _ _ => hb.block x hx, .inl rfl, .inl rfl⟩
theorem LvF.trans (h1 : LvF W W' X M v v' u u') (h2 : LvF W' W'' X M v' v'' u' u'') : LvF W W'' X M v v'' u u'' := by
  refine ⟨Nat.le_trans h1.size h2.size, fun x hx hX hM hv hu => ?_, ?_, ?_⟩
  · rw [h2.kept x (Nat.lt_of_lt_of_le hx h1.size) hX hM (fun e => ?_) (fun e => ?_), h1.kept x hx hX hM hv hu]
    · rcases h1.row with q | q
      · rw [q] at e; exact hv e
      · have := q x e.symm; omega
    · rcases h1.row' with q | q
      · rw [q] at e; exact hu e
      · have := q x e.symm; omega
  · rcases h2.row with q | q
    · rw [q]; exact h1.row
    · exact .inr fun x hx => Nat.le_trans h1.size (q x hx)
  · rcases h2.row' with q | q
    · rw [q]; exact h1.row'
    · exact .inr fun x hx => Nat.le_trans h1.size (q x hx)
theorem LvF.of_grown (hg : W.grownBy W' v.ownBlock) (hat : v'.ownBlock = v.ownBlock ∨ v'.ownBlock = some W.heap.size) : LvF W W' X M v v' u u :=
  ⟨hg.4, fun x hx _ _ hv _ => hg.block x hx hv, hat.imp id fun e x hx => by rw [e] at hx; injection hx with hx; omega, .inl rfl⟩
theorem LvF.of_grown' (hg : W.grownBy W' u.ownBlock) (hat : u'.ownBlock = u.ownBlock ∨ u'.ownBlock = some W.heap.size) : LvF W W' X M v v u u' :=
  ⟨hg.4, fun x hx _ _ _ hu => hg.block x hx hu, .inl rfl, hat.imp id fun e x hx => by rw [e] at hx; injection hx with hx; omega⟩
theorem LvF.of_map (hg : W.grownBy W' (some M)) : LvF W W' X M v v u u :=
  ⟨hg.4, fun x hx _ hM _ _ => hg.block x hx (by intro e; injection e with e; exact hM e), .inl rfl, .inl rfl⟩
theorem LvF.setX (h : LvF W W' X M v v' u u') (i : Nat) (z : Value) : LvF W (W'.setCell ⟨X, i, none⟩ z) X M v v' u u' := by
  refine ⟨by have := h.size; have h2 := (gb_set W' X i z).4; omega, fun y hy hX hM hv hu => ?_, h.row, h.row'⟩
  rw [Below.heap_setCell W' ⟨X, i, none⟩ z y hX]
  exact h.kept y hy hX hM hv hu
theorem LvF.box (h : LvF W W' X M v v' u u') {x : Nat} (hx : W.heap.size ≤ x) (i : Nat) (z : Value) : LvF W (W'.setCell ⟨x, i, none⟩ z) X M v v' u u' := by
  refine ⟨by have := h.size; have h2 := (gb_set W' x i z).4; omega, fun y hy hX hM hv hu => ?_, h.row, h.row'⟩
  rw [Below.heap_setCell W' ⟨x, i, none⟩ z y (show y ≠ x by omega)]
  exact h.kept y hy hX hM hv hu
theorem LvF.blk (h : LvF W W' X M v v' u u') {x : Nat} {t : TypeId} {cs : Array Value} (hB : Blk W x t cs) (hX : x ≠ X) (hM : x ≠ M) (hv : some x ≠ v.ownBlock) (hu : some x ≠ u.ownBlock) : Blk W' x t cs := (h.kept x hB.lt hX hM hv hu).trans hB
end
section
variable {T : TypeId} {w0 W W' : World} {X M : Nat} {z : Value} {A : Option Addr} {n c : Nat} {B : Option Addr} {m d : Nat} {rs : List Fac} {ds : List Int}
theorem LvG.next (h : LvG T w0 W X z A n c B m d rs ds) (hb : Below W.heap.size W W') : LvG T w0 W' X z A n c B m d rs ds :=
  ⟨own_next h.q hb, own_next h.k hb, h.x.next hb, h.e.trans (hb.mono h.e.size), h.hx, h.t1, h.t2⟩
theorem LvG.alloc (h : LvG T w0 W X z A n c B m d rs ds) (o : Obj) : LvG T w0 (W.alloc o) X z A n c B m d rs ds := h.next ((Below.refl _ _).alloc (Nat.le_refl _) _)
theorem LvG.drew (h : LvG T w0 W X z A n c B m d rs ds) : LvG T w0 W.drew X z A n c B m d rs ds := h.next (Below.refl _ _).drew
/-- the rules grow; the box is not yet told -/
structure LvG' (T : TypeId) (w0 W : World) (X : Nat) (z : Value) (A : Option Addr) (n c : Nat) (B : Option Addr) (m d : Nat) (rs : List Fac) (ds : List Int) (vx ux : Value) : Prop where
  q : W.ownsRow w0.heap.size 82 3 (.slice A n c) n (rs.flatMap Fac.cells)
  k : W.ownsRow w0.heap.size 2 1 (.slice B m d) m (ds.flatMap intE)
  x : Blk W X T #[vx, ux, z]
  e : Below w0.heap.size w0 W
  hx : w0.heap.size ≤ X
  t1 : 82 ≠ T
  t2 : 2 ≠ T
theorem LvG.open (h : LvG T w0 W X z A n c B m d rs ds) : LvG' T w0 W X z A n c B m d rs ds (.slice A n c) (.slice B m d) := ⟨h.q, h.k, h.x, h.e, h.hx, h.t1, h.t2⟩
theorem LvG'.shut (h : LvG' T w0 W X z A n c B m d rs ds (.slice A n c) (.slice B m d)) : LvG T w0 W X z A n c B m d rs ds := ⟨h.q, h.k, h.x, h.e, h.hx, h.t1, h.t2⟩
variable {vx ux : Value}
theorem LvG'.next (h : LvG' T w0 W X z A n c B m d rs ds vx ux) (hb : Below W.heap.size W W') : LvG' T w0 W' X z A n c B m d rs ds vx ux :=
  ⟨own_next h.q hb, own_next h.k hb, h.x.next hb, h.e.trans (hb.mono h.e.size), h.hx, h.t1, h.t2⟩
theorem LvG'.alloc (h : LvG' T w0 W X z A n c B m d rs ds vx ux) (o : Obj) : LvG' T w0 (W.alloc o) X z A n c B m d rs ds vx ux := h.next ((Below.refl _ _).alloc (Nat.le_refl _) _)
theorem LvG'.drew (h : LvG' T w0 W X z A n c B m d rs ds vx ux) : LvG' T w0 W.drew X z A n c B m d rs ds vx ux := h.next (Below.refl _ _).drew
theorem LvG'.pushR {A8 : Option Addr} {k8 c8 : Nat} {rs' : List Fac} (h : LvG' T w0 W X z A n c B m d rs ds vx ux) (hq : W'.ownsRow w0.heap.size 82 3 (.slice A8 k8 c8) k8 (rs'.flatMap Fac.cells)) (hg : W.grownBy W' (Value.slice A n c).ownBlock) :
    LvG' T w0 W' X z A8 k8 c8 B m d rs' ds vx ux :=
  ⟨hq, h.k.kept hg (own_ne h.k h.q (by decide)), h.x.grown hg (own_blk_ne h.q h.x h.t1), h.e.grown hg h.e.size (own_ge h.q), h.hx, h.t1, h.t2⟩
theorem LvG'.pushD {B8 : Option Addr} {k8 c8 : Nat} {ds' : List Int} (h : LvG' T w0 W X z A n c B m d rs ds vx ux) (hq : W'.ownsRow w0.heap.size 2 1 (.slice B8 k8 c8) k8 (ds'.flatMap intE)) (hg : W.grownBy W' (Value.slice B m d).ownBlock) :
    LvG' T w0 W' X z A n c B8 k8 c8 rs ds' vx ux :=
  ⟨h.q.kept hg (own_ne h.q h.k (by decide)), hq, h.x.grown hg (own_blk_ne h.k h.x h.t2), h.e.grown hg h.e.size (own_ge h.k), h.hx, h.t1, h.t2⟩
theorem LvG'.set0 (h : LvG' T w0 W X z A n c B m d rs ds vx ux) (y : Value) : LvG' T w0 (W.setCell ⟨X, 0, none⟩ y) X z A n c B m d rs ds y ux :=
  ⟨own_kept' h.q h.x h.t1 _, own_kept' h.k h.x h.t2 _, h.x.set_ 0 _, h.e.setCell h.hx _, h.hx, h.t1, h.t2⟩
theorem LvG'.set1 (h : LvG' T w0 W X z A n c B m d rs ds vx ux) (y : Value) : LvG' T w0 (W.setCell ⟨X, 1, none⟩ y) X z A n c B m d rs ds vx y :=
  ⟨own_kept' h.q h.x h.t1 _, own_kept' h.k h.x h.t2 _, h.x.set_ 1 _, h.e.setCell h.hx _, h.hx, h.t1, h.t2⟩
theorem LvG'.set2 (h : LvG' T w0 W X z A n c B m d rs ds vx ux) (y : Value) : LvG' T w0 (W.setCell ⟨X, 2, none⟩ y) X y A n c B m d rs ds vx ux :=
  ⟨own_kept' h.q h.x h.t1 _, own_kept' h.k h.x h.t2 _, h.x.set_ 2 _, h.e.setCell h.hx _, h.hx, h.t1, h.t2⟩
theorem LvG'.put {mm : List (Fac × Value)} (h : LvG' T w0 W X z A n c B m d rs ds vx ux) (hm : MapIs W M Fac.val mm) (hne : M ≠ X) (hg : W.grownBy W' (some M)) (hb : Below w0.heap.size w0 W') : LvG' T w0 W' X z A n c B m d rs ds vx ux :=
  have ne : ∀ {e sz n : Nat} {v : Value} {xs : List Value}, W.ownsRow w0.heap.size e sz v n xs → v.ownBlock = none ∨ v.ownBlock ≠ some M := fun ho => by
    have := hm.ne_own ho
    exact .inr fun e => this e.symm
  ⟨h.q.kept hg (ne h.q), h.k.kept hg (ne h.k), h.x.grown hg (by intro e; injection e with e; exact hne e.symm), hb, h.hx, h.t1, h.t2⟩
/-- what may be read -/
theorem LvG.red (h : LvG T w0 W X z A n c B n d rs ds) (hr : rs.length = n) (hd : ds.length = n) (hn : 0 < n) : ∃ ga gb, A = some ⟨ga, 0, none⟩ ∧ B = some ⟨gb, 0, none⟩ ∧ ga < W.heap.size ∧ gb < W.heap.size ∧
    ∀ k : Nat, k < n → W.cell? ⟨gb, k, none⟩ = some (.int .i64 (lvD ⟨rs, ds⟩ k)) ∧ W.cell? ⟨ga, k * 3, none⟩ = some (.string (lvR ⟨rs, ds⟩ k).l) ∧ W.cell? ⟨ga, k * 3 + 1, none⟩ = some (.int .i64 (lvR ⟨rs, ds⟩ k).a) ∧ W.cell? ⟨ga, k * 3 + 2, none⟩ = some (.int .i64 (lvR ⟨rs, ds⟩ k).b) := by
  obtain ⟨ga, ca, hva, hga0, hga1⟩ := h.q.form hn
  obtain ⟨gb, cb, hvb, hgb0, hgb1⟩ := h.k.form hn
  obtain rfl : A = some ⟨ga, 0, none⟩ := by injection hva
  obtain rfl : B = some ⟨gb, 0, none⟩ := by injection hvb
  refine ⟨ga, gb, rfl, rfl, by have := h.q.lt ga rfl; omega, by have := h.k.lt gb rfl; omega, fun k hk => ?_⟩
  have a1 := own_at (sz := 1) (enc := intE) (fun _ _ => rfl) h.k hd 0 k hk 0 (by omega)
  have r0 := own_at (sz := 3) (enc := Fac.cells) (fun x _ => fac_len x) h.q hr default k hk 0 (by omega)
  have r1 := own_at (sz := 3) (enc := Fac.cells) (fun x _ => fac_len x) h.q hr default k hk 1 (by omega)
  have r2 := own_at (sz := 3) (enc := Fac.cells) (fun x _ => fac_len x) h.q hr default k hk 2 (by omega)
  rw [Nat.mul_one, Nat.add_zero] at a1
  rw [Nat.add_zero] at r0
  exact ⟨a1, r0, r1, r2⟩
end
end Go.Proofs.Ytgdbpkpaacbhhaa
