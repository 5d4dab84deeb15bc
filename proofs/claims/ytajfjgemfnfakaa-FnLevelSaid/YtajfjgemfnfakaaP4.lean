/-
  Texts of this claim, merged: OrLim MapD WdM WdN Src Drawn Stage3 PlainI DrG LeW.
-/
import Derived.Test.YtajfjgemfnfakaaP3
import Derived.Laws.BitsLemmas
import Derived.Laws.Bits64
import Derived.Lib.Bytealg


/-
  A grammar, if it is valid: in the program and in the reference.
-/
namespace Go.Proofs.Ytajfjgemfnfakaa
open Go.RowKit

/-- a grammar if it is valid, or the word that there is too much -/
def orLim (A : Option Addr) (n c : Nat) (b : Bool) : Value := bif b then .tuple #[.agg #[.slice A n c], .int .i64 0] else .tuple #[.agg #[.slice none 0 0], .int .i64 3]
def limF (rs : List Fac) : List Fac := if (gOk rs).isSome then rs else []
def limC (rs : List Fac) : Int := if (gOk rs).isSome then 0 else 3
theorem orLim_ret {w0 w w' : World} {A : Option Addr} {n c : Nat} {rs : List Fac} (hl : rs.length = n) (ho : w.ownsRow w0.heap.size 59 3 (.slice A n c) n (rs.flatMap Fac.cells)) (h0 : Below w0.heap.size w0 w) (hb : Below w.heap.size w w') :
    RetGC w0 (limF rs) (limC rs) (.returned (orLim A n c (gOk rs).isSome)) w' := by
  have h1 := h0.trans (hb.mono h0.size)
  unfold limF limC orLim
  rcases (gOk rs).isSome with _ | _
  · exact ⟨none, 0, rfl, World.ownsRow_nil _ _ _ _, h1⟩
  · exact ⟨A, c, by simp [hl], by simpa [hl] using own_next ho hb, h1⟩
theorem tuple2_ret {a b : Value} (h : a = b) : Ending.returned a = .returned b := by rw [h]
set_option maxHeartbeats 1000000 in
theorem l02Told_any (A : Option Addr) (n c : Nat) (rs : List Fac) (w : World) (hn : n ≤ 100000000) (hr : Rd w w.heap.size A n 3 Fac.cells rs) (hok : ∀ f ∈ rs, f.l.size ≤ maxLen) :
    Calls Try.prog 23 #[.agg #[.slice A n c]] w (Ret (orLim A n c (gOk rs).isSome) w) := by
  have HR := Lib.hid hr; clear hr
  have HO := Lib.hid hok; clear hok
  obtain ⟨b, hb⟩ : ∃ b, (gOk rs).isSome = b := ⟨_, rfl⟩
  rw [hb]
  have Hb := Lib.hid hb; clear hb
  have hT := Lib.hid (show orLim A n c b = bif b then .tuple #[.agg #[.slice A n c], .int .i64 0] else .tuple #[.agg #[.slice none 0 0], .int .i64 3] from rfl)
  generalize orLim A n c b = T at *
  go_enter Try.func23, Try.ntmps23
  go_wp2_with fail
  refine namedC fun w3 H3 => ?_
  have hb3 : Below w.heap.size w w3 := by rw [H3.out]; (repeat first | exact Below.refl _ _ | assumption | refine Below.drew ?_ | refine Below.alloc ?_ (by first | exact Nat.le_refl _ | (simp; done) | omega | (simp; omega)) _ | refine Below.setCell ?_ (by first | exact Nat.le_refl _ | (simp; done) | omega | (simp; omega)) _)
  have BG := Lib.hid (show Blk w3 w.heap.size 26 #[.slice A n c] by rw [H3.out]; exact (Blk.new _ _ _).alloc _)
  have BC := Lib.hid (show Blk w3 (w.heap.size + 1) 26 #[.slice none 0 0] by rw [H3.out]; simpa using Blk.new (w.alloc (.cells #[.slice A n c] 26)) 26 #[.slice none 0 0])
  clear H3
  refine (l02Ok_any w.heap.size A n c rs w3 BG.out.lt (BG.out.cell 0) hn (HR.out.next hb3) HO.out b Hb.out).mono ?_
  rintro e1 w4 ⟨rfl, hb4⟩
  have b4 := hb3.trans (hb4.mono hb3.size)
  have BC4 := BC.out.next hb4
  have BG4 := BG.out.next hb4
  have d4 := BC4.cell 0
  have f4 := BC4.frozen
  have l4 := BC4.lt
  have g4 := BG4.cell 0
  cases b
  · have B5 := BC4.set_ 0 (.slice none 0 0)
    have x5 : (w4.setCell ⟨w.heap.size + 1, 0, none⟩ (.slice none 0 0)).cell? ⟨w.heap.size + 1, 0, none⟩ = some (.slice none 0 0) := by rw [B5.cell 0]; rfl
    have b5 := b4.setCell (p := ⟨w.heap.size + 1, 0, none⟩) (by simp) (.slice none 0 0)
    clear B5 BC4 BG4
    go_wp2_with fail
    exact bodyPost_ret (v := .tuple #[.agg #[.slice none 0 0], .int .i64 3]) (by simp [results, Try.results23, go_sem, x5]) rfl ⟨by rw [hT.out]; rfl, b5⟩
  · have B5 := BC4.set_ 0 (.slice A n c)
    have x5 : (w4.setCell ⟨w.heap.size + 1, 0, none⟩ (.slice A n c)).cell? ⟨w.heap.size + 1, 0, none⟩ = some (.slice A n c) := by rw [B5.cell 0]; rfl
    have b5 := b4.setCell (p := ⟨w.heap.size + 1, 0, none⟩) (by simp) (.slice A n c)
    clear B5 BC4 BG4
    go_wp2_with fail
    exact bodyPost_ret (v := .tuple #[.agg #[.slice A n c], .int .i64 0]) (by simp [results, Try.results23, go_sem, x5]) rfl ⟨by rw [hT.out]; rfl, b5⟩
theorem l02Told_yes (A : Option Addr) (n c : Nat) (rs : List Fac) (w : World) (hn : n ≤ 100000000) (hr : Rd w w.heap.size A n 3 Fac.cells rs) (hok : ∀ f ∈ rs, f.l.size ≤ maxLen) (h : (gOk rs).isSome = true) :
    Calls Try.prog 23 #[.agg #[.slice A n c]] w (Ret (.tuple #[.agg #[.slice A n c], .int .i64 0]) w) := by
  have := l02Told_any A n c rs w hn hr hok
  rw [h] at this; exact this
theorem l02Told_no (A : Option Addr) (n c : Nat) (rs : List Fac) (w : World) (hn : n ≤ 100000000) (hr : Rd w w.heap.size A n 3 Fac.cells rs) (hok : ∀ f ∈ rs, f.l.size ≤ maxLen) (h : (gOk rs).isSome = false) :
    Calls Try.prog 23 #[.agg #[.slice A n c]] w (Ret (.tuple #[.agg #[.slice none 0 0], .int .i64 3]) w) := by
  have := l02Told_any A n c rs w hn hr hok
  rw [h] at this; exact this
end Go.Proofs.Ytajfjgemfnfakaa


/-
  The letters of a grammar replaced: what is made, and the code.
-/
namespace Go.Proofs.Ytajfjgemfnfakaa

def mapOk (rs : List Fac) (ws : List ByteArray) : Bool := (gOk rs).isSome && (decide (ws.length = 4) && ws.all okW)
def mapT (rs : List Fac) (ws : List ByteArray) : List Fac := trimL ((mapS2 rs ws).1.take ((lastI (mapS2 rs ws).2).toNat + 1))
def mapF (rs : List Fac) (ws : List ByteArray) : List Fac :=
  if mapOk rs ws = false then [] else if 400 < (mapS2 rs ws).1.length then [] else if (mapS2 rs ws).2.length = 0 ∨ lastI (mapS2 rs ws).2 < 0 then [] else limF (mapT rs ws)
def mapC (rs : List Fac) (ws : List ByteArray) : Int :=
  if mapOk rs ws = false then 1 else if 400 < (mapS2 rs ws).1.length then 3 else if (mapS2 rs ws).2.length = 0 ∨ lastI (mapS2 rs ws).2 < 0 then 0 else limC (mapT rs ws)
end Go.Proofs.Ytajfjgemfnfakaa


/-
  The word of a grammar whose letters are replaced.
-/
namespace Go.Proofs.Ytajfjgemfnfakaa

theorem full_pre {α : Type} (d : α) (F : Nat → α) (G : α → α → Fac → α) : ∀ (ys xs : List Fac) {p : Nat}, p < xs.length → (full d F G (xs ++ ys)).getD p d = (full d F G xs).getD p d
  | [], xs, p, _ => by rw [List.append_nil]
  | y :: ys, xs, p, h => by
    rw [show xs ++ y :: ys = (xs ++ [y]) ++ ys by simp, full_pre d F G ys (xs ++ [y]) (by simp; omega), full_old d F G xs y h]
theorem wds_pre (xs ys : List Fac) {p : Nat} (h : p < xs.length) : (wds (xs ++ ys)).getD p [] = (wds xs).getD p [] := full_pre [] wdF wdG ys xs h
theorem wds_take {rs : List Fac} {n p : Nat} (h : p < n) (hn : n ≤ rs.length) : (wds (rs.take n)).getD p [] = (wds rs).getD p [] := by
  have := wds_pre (rs.take n) (rs.drop n) (p := p) (by rw [List.length_take]; omega)
  rw [List.take_append_drop] at this
  exact this.symm
theorem wds_pair {rs : List Fac} (hwf : WF rs) {k : Nat} {r : Fac} (h : rs[k]? = some r) (h0 : r.l.size = 0) : (wds rs).getD k [] = (wds rs).getD r.a.toNat [] ++ (wds rs).getD r.b.toNat [] := full_pair [] wdF wdG hwf h h0
theorem wds_one {rs : List Fac} {k : Nat} {r : Fac} (h : rs[k]? = some r) {c : UInt8} (hl : r.l = ⟨#[c]⟩) : (wds rs).getD k [] = [c.toNat - 97] := by
  have := full_let [] wdF wdG h (by rw [hl]; show (1 : Nat) ≠ 0; omega)
  rw [hl] at this
  exact this
theorem wds_snoc {rs : List Fac} {a b : Int} (ha : 0 ≤ a ∧ a < rs.length) (hb : 0 ≤ b ∧ b < rs.length) (hwf : WF rs) : (wds (rs ++ [⟨⟨#[]⟩, a, b⟩])).getD rs.length [] = (wds rs).getD a.toNat [] ++ (wds rs).getD b.toNat [] := by
  have hr : (rs ++ [(⟨⟨#[]⟩, a, b⟩ : Fac)])[rs.length]? = some ⟨⟨#[]⟩, a, b⟩ := by simp
  rw [wds_pair (wf_snoc hwf ha hb) hr rfl, wds_pre _ _ (show a.toNat < rs.length by have := ha.1; have := ha.2; omega), wds_pre _ _ (show b.toNat < rs.length by have := hb.1; have := hb.2; omega)]
/-- rules that are raised -/
theorem wds_raise {xs ys : List Fac} (hx : WF xs) (hy : WF ys) : ∀ j, j < ys.length → (wds (xs ++ raiseL xs.length ys)).getD (xs.length + j) [] = (wds ys).getD j [] := by
  intro j
  induction j using Nat.strongRecOn with
  | ind j ih =>
    intro hj
    have hr : ys[j]? = some ys[j] := List.getElem?_eq_getElem hj
    have hz : (xs ++ raiseL xs.length ys)[xs.length + j]? = some (rsF xs.length ys[j]) := by
      rw [List.getElem?_append_right (by omega), Nat.add_sub_cancel_left]
      unfold raiseL
      rw [List.getElem?_map, hr]; rfl
    rcases hy j _ hr with ⟨h0, a0, a1, b0, b1⟩ | ⟨c, hc, hl, _, _⟩
    · have e : rsF xs.length ys[j] = ⟨ys[j].l, ys[j].a + xs.length, ys[j].b + xs.length⟩ := by unfold rsF; rw [if_pos h0]
      rw [e] at hz
      rw [wds_pair (wf_raise hx hy) hz h0, wds_pair hy hr h0]
      simp only
      rw [show (ys[j].a + (xs.length : Int)).toNat = xs.length + ys[j].a.toNat by omega, show (ys[j].b + (xs.length : Int)).toNat = xs.length + ys[j].b.toNat by omega, ih _ (by omega) (by omega), ih _ (by omega) (by omega)]
    · have e : rsF xs.length ys[j] = ys[j] := by unfold rsF; rw [if_neg (by rw [hl]; show ¬ (1 : Nat) = 0; omega)]
      rw [e] at hz
      rw [wds_one hz hl, wds_one hr hl]
def numC (c : UInt8) : Nat := c.toNat - 97
def nums (s : ByteArray) : List Nat := s.data.toList.map numC
theorem wds_pairs (w : List UInt8) : ∀ (cs : List UInt8) (b : Int) (xs : List Fac) (u : List Nat), WF xs → (∀ c ∈ cs, 0 ≤ atP w c ∧ atP w c < xs.length ∧ (wds xs).getD (atP w c).toNat [] = [numC c]) → 0 ≤ b → b < xs.length → (wds xs).getD b.toNat [] = u →
    (wds (xs ++ pairsP w cs b xs.length)).getD (if cs = [] then b.toNat else xs.length + cs.length - 1) [] = u ++ cs.map numC
  | [], b, xs, u, _, _, _, _, hu => by
    rw [show pairsP w [] b xs.length = [] from rfl, List.append_nil, if_pos rfl, hu]; simp
  | c :: cs, b, xs, u, hw, hc, b0, b1, hu => by
    have hcc := hc c (by simp)
    have hw2 := wf_snoc hw (a := b) (b := atP w c) ⟨b0, b1⟩ ⟨hcc.1, hcc.2.1⟩
    have hv := wds_snoc (rs := xs) (a := b) (b := atP w c) ⟨b0, b1⟩ ⟨hcc.1, hcc.2.1⟩ hw
    rw [hu, hcc.2.2] at hv
    have ih := wds_pairs w cs (xs.length : Int) (xs ++ [⟨⟨#[]⟩, b, atP w c⟩]) (u ++ [numC c]) hw2 (fun c' hc' => by
      have := hc c' (by simp [hc'])
      exact ⟨this.1, by simp; omega, by rw [wds_pre _ _ (by omega)]; exact this.2.2⟩) (by omega) (by simp; omega) (by rw [Int.toNat_natCast]; exact hv)
    simp only [List.length_append, List.length_singleton, List.append_assoc, List.singleton_append] at ih
    rw [if_neg (by simp)]
    show (wds (xs ++ ⟨⟨#[]⟩, b, atP w c⟩ :: pairsP w cs xs.length (xs.length + 1))).getD _ [] = _
    by_cases h : cs = []
    · subst h
      simp only [pairsP, if_true, Int.toNat_natCast, List.map_nil, List.append_nil, List.length_singleton, List.map_cons] at ih ⊢
      simpa using ih
    · rw [if_neg h] at ih
      rw [show xs.length + (c :: cs).length - 1 = xs.length + 1 + cs.length - 1 by simp only [List.length_cons]; omega, ih]
      simp
theorem plain_word {w : List UInt8} (hl : w.all letB = true) (h0 : w ≠ []) : (wds (plainL w)).getD ((plainL w).length - 1) [] = w.map numC := by
  unfold plainL
  split
  · exact absurd rfl h0
  · rename_i c cs
    have hm : ∀ c' ∈ c :: cs, letB c' = true := by simpa using hl
    have hlen : (lettersP (c :: cs)).length = (ksP (c :: cs)).length := by simp [lettersP]
    rw [← hlen]
    have hat : ∀ c' ∈ c :: cs, 0 ≤ atP (c :: cs) c' ∧ atP (c :: cs) c' < (lettersP (c :: cs)).length ∧ (wds (lettersP (c :: cs))).getD (atP (c :: cs) c').toNat [] = [numC c'] := fun c' hc' => by
      have h1 := atP_lt hc' (hm c' hc')
      refine ⟨h1.1, by rw [hlen]; exact h1.2, ?_⟩
      refine wds_one (r := ruleC c') (c := c') ?_ rfl
      unfold lettersP atP
      rw [Int.toNat_natCast, List.getElem?_map]
      have hi := mem_ks hc' (hm c' hc')
      rw [List.getElem?_eq_getElem (List.idxOf_lt_length_of_mem hi), List.getElem_idxOf]; rfl
    have := wds_pairs (c :: cs) cs (atP (c :: cs) c) (lettersP (c :: cs)) [numC c] (wf_letters _ fun _ h => ks_letB h) (fun c' hc' => hat c' (by simp [hc'])) (hat c (by simp)).1 (hat c (by simp)).2.1 (hat c (by simp)).2.2
    rw [List.length_append, pairsP_len]
    by_cases h : cs = []
    · subst h
      simp only [if_true, List.map_nil, List.append_nil, List.length_nil, Nat.add_zero, List.map_cons] at this ⊢
      have e : (lettersP [c]).length - 1 = (atP [c] c).toNat := by
        have h1 := hat c (by simp)
        have h2 : (lettersP [c]).length ≤ 1 := by
          rw [hlen]
          unfold ksP
          have : ∀ l : List UInt8, l.Nodup → (l.filter fun x => decide (x ∈ [c])).length ≤ 1 := fun l hl => by
            have : (l.filter fun x => decide (x ∈ [c])) = l.filter (fun x => x == c) := by
              apply List.filter_congr
              intro x _
              rw [Bool.eq_iff_iff]; simp
            rw [this, ← List.countP_eq_length_filter]
            have := List.nodup_iff_count.1 hl c
            exact this
          exact this _ (by decide)
        omega
      rw [e]; exact this
    · rw [if_neg h] at this
      rw [this]; simp
/-- the word with its letters replaced -/
def mapW (ws : List ByteArray) (u : List Nat) : List Nat := u.flatMap fun k => nums (ws.getD k ⟨#[]⟩)
theorem mapW_app (ws : List ByteArray) (u v : List Nat) : mapW ws (u ++ v) = mapW ws u ++ mapW ws v := by simp [mapW]
/-- what the letters' rules hold -/
structure MlW (rs : List Fac) (ws : List ByteArray) (s : List Fac × List Int) (k : Nat) : Prop where
  hi : ∀ i, k ≤ i → i < 4 → s.2.getD i 0 = -1
  lo : ∀ i, i < k → (s.2.getD i 0 < 0 → nums (ws.getD i ⟨#[]⟩) = [] ∨ usedL rs (lb i) = false) ∧ (0 ≤ s.2.getD i 0 → (wds s.1).getD (s.2.getD i 0).toNat [] = nums (ws.getD i ⟨#[]⟩) ∧ nums (ws.getD i ⟨#[]⟩) ≠ [])
theorem nums_nil {s : ByteArray} : nums s = [] ↔ s.size = 0 := by
  unfold nums
  rw [List.map_eq_nil_iff, ← byte_len, List.length_eq_zero_iff]
theorem MlW.step {rs : List Fac} {ws : List ByteArray} {s : List Fac × List Int} {k : Nat} (h : MlW rs ws s k) (hI : MlI s k) (hk : k < 4) {w : ByteArray} (hw : okW w = true) (he : ws.getD k ⟨#[]⟩ = w) : MlW rs ws (mlStep rs k w s) (k + 1) := by
  unfold mlStep
  split
  · rename_i hc
    obtain ⟨hl, hsz⟩ := okW_let hw
    have hne : w.data.toList ≠ [] := fun e => hc.1 (by rw [← byte_len, e]; rfl)
    have h2 := plainL_pos hne hl
    have hset : ∀ (v : Int) (i : Nat), (s.2.set k v).getD i 0 = if i = k then v else s.2.getD i 0 := fun v i => by
      rw [List.getD_eq_getElem?_getD, List.getElem?_set]
      by_cases e : k = i
      · subst e; rw [if_pos rfl, if_pos (by rw [hI.st]; exact hk), if_pos rfl]; rfl
      · rw [if_neg e, if_neg (fun q => e q.symm), ← List.getD_eq_getElem?_getD]
    refine ⟨fun i h1 h4 => ?_, fun i hi => ?_⟩
    · simp only
      rw [hset, if_neg (by omega)]; exact h.hi i (by omega) h4
    · simp only
      rw [hset]
      by_cases e : i = k
      · subst e
        rw [if_pos rfl, he]
        refine ⟨fun q => by omega, fun _ => ⟨?_, fun q => hc.1 (nums_nil.1 q)⟩⟩
        have e1 : ((((s.1.length + (plainL w.data.toList).length : Nat) : Int) - 1).toNat) = s.1.length + ((plainL w.data.toList).length - 1) := by omega
        rw [e1, wds_raise hI.wf (wf_plain hl) _ (by omega), plain_word hl hne]; rfl
      · rw [if_neg e]
        have := h.lo i (by omega)
        refine ⟨this.1, fun q => ?_⟩
        have hb := hI.b i (by omega)
        rw [wds_pre _ _ (by omega)]
        exact this.2 q
  · rename_i hc
    refine ⟨fun i h1 h4 => h.hi i (by omega) h4, fun i hi => ?_⟩
    by_cases e : i = k
    · subst e
      rw [he]
      have h1 := h.hi i (Nat.le_refl _) hk
      refine ⟨fun _ => ?_, fun q => by omega⟩
      by_cases h0 : w.size = 0
      · exact .inl (nums_nil.2 h0)
      · right
        cases hu : usedL rs (lb i) with
        | false => rfl
        | true => exact absurd ⟨h0, hu⟩ hc
    · exact h.lo i (by omega)
theorem MlW.go {rs : List Fac} {ws0 : List ByteArray} : ∀ (ws : List ByteArray) (k : Nat) (s : List Fac × List Int), MlW rs ws0 s k → MlI s k → k + ws.length ≤ 4 → (∀ w ∈ ws, okW w = true) → ws0.drop k = ws → MlW rs ws0 (mlGo rs k ws s) (k + ws.length)
  | [], _, _, h, _, _, _, _ => h
  | w :: ws, k, s, h, hI, hk, hw, hd => by
    simp only [List.length_cons] at hk ⊢
    have hx : ws0[k]? = some w := by
      have : (ws0.drop k)[0]? = some w := by rw [hd]; rfl
      rw [List.getElem?_drop] at this; simpa using this
    have := MlW.go (rs := rs) (ws0 := ws0) ws (k + 1) (mlStep rs k w s) (h.step hI (by omega) (hw w (by simp)) (by rw [List.getD_eq_getElem?_getD, hx]; rfl)) (hI.step (by omega) (hw w (by simp))) (by omega) (fun x hx => hw x (by simp [hx])) (by
      rw [← List.drop_drop, hd]; rfl)
    rw [show k + (ws.length + 1) = k + 1 + ws.length by omega]
    exact this
theorem MlW.nil (rs : List Fac) (ws : List ByteArray) : MlW rs ws ([], [-1, -1, -1, -1]) 0 := ⟨fun i _ hi => by
  rcases i with _ | _ | _ | _ | i
  · decide
  · decide
  · decide
  · decide
  · omega, fun i hi => by omega⟩
/-- what the rules that stand for others hold -/
def MrW (rs : List Fac) (ws : List ByteArray) (s : List Fac × List Int) (k : Nat) : Prop :=
  ∀ i, i < k → (s.2.getD i 0 < 0 → mapW ws ((wds rs).getD i []) = []) ∧ (0 ≤ s.2.getD i 0 → (wds s.1).getD (s.2.getD i 0).toNat [] = mapW ws ((wds rs).getD i []))
theorem MrW.step {rs : List Fac} {ws : List ByteArray} {st : List Int} {s0 s : List Fac × List Int} {n k : Nat} (hwf : WF rs) (h : MrW rs ws s k) (hI : MrI s n k) (hst : s0.2 = st) (hw : MlW rs ws s0 4) (hb : ∀ i, i < 4 → -1 ≤ st.getD i 0 ∧ st.getD i 0 < s0.1.length)
    (hpre : ∃ e, s.1 = s0.1 ++ e) {r : Fac} (hr : rs[k]? = some r) : MrW rs ws (mrStep st r s) (k + 1) ∧ ∃ e, (mrStep st r s).1 = s0.1 ++ e := by
  obtain ⟨e, he⟩ := hpre
  have old : ∀ (out : List Fac) (x : Int), (∃ q, out = s.1 ++ q) → ((x < 0 → mapW ws ((wds rs).getD k []) = []) ∧ (0 ≤ x → (wds out).getD x.toNat [] = mapW ws ((wds rs).getD k []))) → MrW rs ws (out, s.2 ++ [x]) (k + 1) := by
    intro out x ⟨q, hq⟩ hx i hi
    simp only
    rw [getD_snoc, hI.st]
    by_cases hik : i < k
    · rw [if_pos hik]
      have := h i hik
      refine ⟨this.1, fun q0 => ?_⟩
      have hbb := hI.b i hik
      rw [hq, wds_pre _ _ (by omega)]
      exact this.2 q0
    · obtain rfl : i = k := by omega
      rw [if_neg hik, if_pos rfl]
      exact hx
  unfold mrStep
  rcases hwf k r hr with ⟨h0, a0, a1, b0, b1⟩ | ⟨c, hc, hl, _, _⟩
  · rw [if_pos h0]
    have hwk := wds_pair hwf hr h0
    have hA := hI.b r.a.toNat (by omega)
    have hB := hI.b r.b.toNat (by omega)
    have wA := h r.a.toNat (by omega)
    have wB := h r.b.toNat (by omega)
    split
    · rename_i hn
      refine ⟨old _ _ ⟨[], by simp⟩ ?_, e, he⟩
      rw [hwk, mapW_app, wA.1 hn, List.nil_append]
      exact wB
    · split
      · rename_i hn1 hn
        refine ⟨old _ _ ⟨[], by simp⟩ ?_, e, he⟩
        rw [hwk, mapW_app, wB.1 hn, List.append_nil]
        exact wA
      · rename_i h1 h2
        refine ⟨old _ _ ⟨_, rfl⟩ ⟨fun q => by omega, fun _ => ?_⟩, e ++ [⟨⟨#[]⟩, s.2.getD r.a.toNat 0, s.2.getD r.b.toNat 0⟩], by rw [he, List.append_assoc]⟩
        rw [Int.toNat_natCast, wds_snoc ⟨by omega, hA.2⟩ ⟨by omega, hB.2⟩ hI.wf, wA.2 (by omega), wB.2 (by omega), hwk, mapW_app]
  · rw [if_neg (by rw [hl]; show ¬ (1 : Nat) = 0; omega)]
    refine ⟨old _ _ ⟨[], by simp⟩ ?_, e, he⟩
    have hq : letN r.l < 4 := by rw [hl]; exact letN_lt (s := ⟨#[c]⟩) hc
    have hwk : (wds rs).getD k [] = [letN r.l] := by rw [wds_one hr hl, hl]; rfl
    have hu : usedL rs (lb (letN r.l)) = true := by
      unfold usedL
      rw [List.any_eq_true]
      refine ⟨r, List.mem_of_getElem? hr, ?_⟩
      rw [decide_eq_true_eq, hl]
      congr 1
      have hn := letB_num hc
      have : lb (letN ⟨#[c]⟩) = c := by
        rw [← UInt8.toNat_inj, letN_one]
        unfold lb
        rw [UInt8.toNat_ofNat']; omega
      rw [this]
    have hlo := hw.lo (letN r.l) hq
    rw [hst] at hlo
    rw [hwk]
    have hmw : mapW ws [letN r.l] = nums (ws.getD (letN r.l) ⟨#[]⟩) := by simp [mapW]
    rw [hmw]
    refine ⟨fun q => ?_, fun q => ?_⟩
    · rcases hlo.1 q with q1 | q1
      · exact q1
      · rw [hu] at q1; cases q1
    · have := hb (letN r.l) hq
      rw [he, wds_pre _ _ (by omega)]
      exact (hlo.2 q).1
theorem mapOk_ws {rs : List Fac} {ws : List ByteArray} (h : mapOk rs ws = true) : ws.length = 4 ∧ (∀ w ∈ ws, okW w = true) ∧ (gOk rs).isSome = true := by
  unfold mapOk at h
  simp only [Bool.and_eq_true, decide_eq_true_eq, List.all_eq_true] at h
  exact ⟨h.2.1, h.2.2, h.1⟩
end Go.Proofs.Ytajfjgemfnfakaa


/-
  The word of a grammar whose letters are replaced: the law; grammars of few rules are valid.
-/
namespace Go.Proofs.Ytajfjgemfnfakaa

theorem trimL_most (rs : List Fac) : (trimL rs).length ≤ rs.length := by
  unfold trimL
  split
  · simp
  · have h1 := outT_len (useT (trK rs [] []).1 rs.length (use0 rs.length (trK rs [] []).2)) (trK rs [] []).1 0 [] (List.replicate rs.length 0)
    have h2 := trK_len rs [] []
    simp only [List.length_nil, Nat.zero_add] at h1 h2
    omega
theorem map_all {rs : List Fac} {ws : List ByteArray} (hok : mapOk rs ws = true) : WF rs ∧ MlI (mapS1 rs ws) 4 ∧ ∀ k, k ≤ rs.length →
    MrW rs ws (mrGo (mapS1 rs ws).2 (rs.take k) ((mapS1 rs ws).1, [])) k ∧ MrI (mrGo (mapS1 rs ws).2 (rs.take k) ((mapS1 rs ws).1, [])) (mapS1 rs ws).1.length k ∧ ∃ e, (mrGo (mapS1 rs ws).2 (rs.take k) ((mapS1 rs ws).1, [])).1 = (mapS1 rs ws).1 ++ e := by
  obtain ⟨hl, hw, hg⟩ := mapOk_ws hok
  obtain ⟨ls, hls⟩ := Option.isSome_iff_exists.1 hg
  have hwf := wf_of (gOk_lens hls).1
  have hI := MlI.go (rs := rs) ws 0 ([], [-1, -1, -1, -1]) MlI.nil (by omega) hw
  have hW := MlW.go (rs := rs) (ws0 := ws) ws 0 ([], [-1, -1, -1, -1]) (MlW.nil rs ws) MlI.nil (by omega) hw rfl
  rw [hl, Nat.zero_add] at hI hW
  have hI' : MlI (mapS1 rs ws) 4 := hI
  have hW' : MlW rs ws (mapS1 rs ws) 4 := hW
  refine ⟨hwf, hI', ?_⟩
  generalize mapS1 rs ws = s1 at *
  intro k
  induction k with
  | zero => exact fun _ => ⟨fun i hi => by omega, ⟨hI'.wf, rfl, fun i hi => by omega, Nat.le_refl _⟩, [], by simp [mrGo]⟩
  | succ k ih =>
    intro hk
    obtain ⟨h1, h2, h3⟩ := ih (by omega)
    have hr : rs[k]? = some rs[k] := List.getElem?_eq_getElem (by omega)
    rw [take_succ_at hr, mrGo_snoc]
    have hle : s1.1.length ≤ (mrGo s1.2 (rs.take k) (s1.1, [])).1.length := by
      obtain ⟨e, he⟩ := h3
      rw [he, List.length_append]; omega
    have s1b := fun i hi => hI'.b i hi
    obtain ⟨h4, _⟩ := h2.step (st := s1.2) (fun i hi => by have := s1b i hi; omega) (hwf k _ hr)
    obtain ⟨h5, h6⟩ := h1.step hwf h2 rfl hW' s1b h3 hr
    exact ⟨h5, h4, h6⟩
/-- a rule's word is at most twice as long as the longest before it -/
theorem wds_pow {rs : List Fac} (hwf : WF rs) : ∀ k, k < rs.length → ((wds rs).getD k []).length ≤ 2 ^ k := by
  intro k
  induction k using Nat.strongRecOn with
  | ind k ih =>
    intro hk
    have hr : rs[k]? = some rs[k] := List.getElem?_eq_getElem hk
    rcases hwf k _ hr with ⟨h0, a0, a1, b0, b1⟩ | ⟨c, _, hl, _, _⟩
    · rw [wds_pair hwf hr h0, List.length_append]
      have e1 := ih rs[k].a.toNat (by omega) (by omega)
      have e2 := ih rs[k].b.toNat (by omega) (by omega)
      obtain ⟨m, rfl⟩ : ∃ m, k = m + 1 := ⟨k - 1, by omega⟩
      have p1 : 2 ^ rs[m + 1].a.toNat ≤ 2 ^ m := Nat.pow_le_pow_right (by omega) (by omega)
      have p2 : 2 ^ rs[m + 1].b.toNat ≤ 2 ^ m := Nat.pow_le_pow_right (by omega) (by omega)
      rw [Nat.pow_succ]; omega
    · rw [wds_one hr hl]
      exact Nat.one_le_two_pow
theorem wds_lens {rs : List Fac} (hwf : WF rs) {k : Nat} (hk : k < rs.length) : (full 0 lenF lenG rs).getD k 0 = (((wds rs).getD k []).length : Int) :=
  full_hom (d := (0 : Int)) (F := lenF) (G := lenG) hwf (fun u => (u.length : Int)) (fun k _ => rfl) (fun u v r _ _ _ _ => by simp [lenG]) k hk
theorem ok_of {rs : List Fac} (hwf : WF rs) (hn : rs.length ≤ 400) (hb : ∀ k, k < rs.length → ((wds rs).getD k []).length ≤ 1000000000000000) : (gOk rs).isSome = true := by
  unfold gOk
  rw [if_neg (by omega)]
  exact gLens_of hwf (fun k hk => by rw [wds_lens hwf hk]; have := hb k hk; omega) rs.length 0 (by omega)
theorem small_ok {rs : List Fac} (hwf : WF rs) (hn : rs.length ≤ 49) : (gOk rs).isSome = true :=
  ok_of hwf (by omega) fun k hk => by
    have h1 := wds_pow hwf k hk
    have h2 : 2 ^ k ≤ 2 ^ 48 := Nat.pow_le_pow_right (by omega) (by omega)
    have h3 : (2 : Nat) ^ 48 ≤ 1000000000000000 := by decide
    omega
theorem trim_word {rs : List Fac} (hwf : WF rs) (h0 : 0 < rs.length) : WF (trimL rs) ∧ 0 < (trimL rs).length ∧ (trimL rs).length ≤ rs.length ∧ wdN (trimL rs) = wdN rs := by
  obtain ⟨h1, h2, h3, _⟩ := trim_val [] wdF wdG (fun _ _ _ _ => rfl) hwf h0
  have h4 : (trimL rs).length ≤ rs.length := trimL_most rs
  refine ⟨h1, h2, h4, ?_⟩
  unfold wdN
  rw [if_neg (by intro e; rw [e] at h2; simp at h2), if_neg (by intro e; rw [e] at h0; simp at h0)]
  exact h3
/-- the code is told -/
theorem map_word {rs : List Fac} {ws : List ByteArray} (hok : mapOk rs ws = true) (hC : mapC rs ws = 0) : (gOk (mapF rs ws)).isSome = true ∧ wdN (mapF rs ws) = mapW ws (wdN rs) := by
  obtain ⟨hwf, hI, hall⟩ := map_all hok
  obtain ⟨h1, h2, _⟩ := hall rs.length (Nat.le_refl _)
  rw [List.take_of_length_le (Nat.le_refl _)] at h1 h2
  unfold mapC at hC
  unfold mapF
  rw [if_neg (by rw [hok]; decide)] at hC ⊢
  have hS : mapS2 rs ws = mrGo (mapS1 rs ws).2 rs ((mapS1 rs ws).1, []) := rfl
  rw [← hS] at h1 h2
  unfold mapT at hC ⊢
  generalize mapS2 rs ws = s2 at *
  split at hC
  · cases hC
  rename_i h400
  rw [if_neg h400]
  have hlen := h2.st
  by_cases hz : s2.2.length = 0 ∨ lastI s2.2 < 0
  · rw [if_pos hz]
    refine ⟨rfl, ?_⟩
    have hw0 : wdN ([] : List Fac) = [] := rfl
    rw [hw0]
    unfold wdN
    split
    · rfl
    · rename_i hne
      have hpos : 0 < rs.length := List.length_pos_iff.2 hne
      rcases hz with hz | hz
      · omega
      · have := (h1 (rs.length - 1) (by omega)).1 (by unfold lastI at hz; rw [hlen] at hz; exact hz)
        exact this.symm
  · rw [if_neg hz] at hC ⊢
    have hne : rs ≠ [] := fun e => hz (.inl (by rw [hlen, e]; rfl))
    have hpos : 0 < rs.length := List.length_pos_iff.2 hne
    have hsl0 : 0 ≤ lastI s2.2 := by
      rcases Int.lt_or_le (lastI s2.2) 0 with h | h
      · exact absurd (.inr h) hz
      · exact h
    have hsl1 : lastI s2.2 < s2.1.length := by
      have := h2.b (rs.length - 1) (by omega)
      unfold lastI
      rw [hlen]; exact this.2
    unfold limC at hC
    unfold limF
    have hg : (gOk (trimL (s2.1.take ((lastI s2.2).toNat + 1)))).isSome = true := by
      rcases hb : (gOk (trimL (s2.1.take ((lastI s2.2).toNat + 1)))).isSome with _ | _
      · rw [hb] at hC; exact absurd hC (by decide)
      · rfl
    rw [hg, if_pos rfl]
    refine ⟨hg, ?_⟩
    have hwt := wf_take h2.wf ((lastI s2.2).toNat + 1)
    have hlt : (s2.1.take ((lastI s2.2).toNat + 1)).length = (lastI s2.2).toNat + 1 := by rw [List.length_take]; omega
    obtain ⟨_, _, _, e⟩ := trim_word hwt (by omega)
    rw [e]
    have hv := (h1 (rs.length - 1) (by omega)).2 (by unfold lastI at hsl0; rw [hlen] at hsl0; exact hsl0)
    unfold wdN
    rw [if_neg (by intro q; rw [q] at hlt; simp at hlt), if_neg hne, hlt, Nat.add_sub_cancel, wds_take (by omega) (by omega), ← hv]
    unfold lastI
    rw [hlen]
/-- few rules, short words: there is no limit -/
theorem map_small {rs : List Fac} {ws : List ByteArray} (hok : mapOk rs ws = true) (hn : (mapS2 rs ws).1.length ≤ 49) : mapC rs ws = 0 := by
  obtain ⟨hwf, hI, hall⟩ := map_all hok
  obtain ⟨h1, h2, _⟩ := hall rs.length (Nat.le_refl _)
  rw [List.take_of_length_le (Nat.le_refl _)] at h1 h2
  have hS : mapS2 rs ws = mrGo (mapS1 rs ws).2 rs ((mapS1 rs ws).1, []) := rfl
  rw [← hS] at h1 h2
  unfold mapC mapT
  rw [if_neg (by rw [hok]; decide), if_neg (by omega)]
  generalize mapS2 rs ws = s2 at *
  split
  · rfl
  · rename_i hz
    have hlen := h2.st
    have hpos : 0 < rs.length := by
      rcases Nat.eq_zero_or_pos rs.length with h | h
      · exact absurd (.inl (by omega)) hz
      · exact h
    have hsl0 : 0 ≤ lastI s2.2 := by
      rcases Int.lt_or_le (lastI s2.2) 0 with h | h
      · exact absurd (.inr h) hz
      · exact h
    have hsl1 : lastI s2.2 < s2.1.length := by
      have := h2.b (rs.length - 1) (by omega)
      unfold lastI
      rw [hlen]; exact this.2
    have hwt := wf_take h2.wf ((lastI s2.2).toNat + 1)
    have hlt : (s2.1.take ((lastI s2.2).toNat + 1)).length = (lastI s2.2).toNat + 1 := by rw [List.length_take]; omega
    obtain ⟨e1, _, e3, _⟩ := trim_word hwt (by omega)
    unfold limC
    rw [small_ok e1 (by omega)]; rfl
end Go.Proofs.Ytajfjgemfnfakaa


/-
  The reader of choices: what it hands back lies within bounds.
-/
namespace Go.Proofs.Ytajfjgemfnfakaa
open Go.RowKit

def byteE (b : UInt8) : List Value := [.int .u8 (b.toNat : Int)]
def U64 (z : Int) : Prop := 0 ≤ z ∧ z < 18446744073709551616
/-- block g is a reader that has read at most K bytes -/
def Src (w : World) (g K : Nat) : Prop := ∃ (A : Option Addr) (n c k : Nat) (bs : List UInt8) (z : Int), k ≤ K ∧ n ≤ 4096 ∧ U64 z ∧ Blk w g 79 #[.slice A n c, .int .i64 k, .int .u64 z] ∧ Rd w g A n 1 byteE bs
/-- what a draw below m leaves -/
def Draw (w : World) (g K : Nat) (m : Int) (e : Ending) (w' : World) : Prop := ∃ v : Int, e = .returned (.int .i64 v) ∧ 0 ≤ v ∧ v < m ∧ Src w' g K ∧ w.grownBy w' (some g)
theorem Rd.byte {w : World} {B n : Nat} {A : Option Addr} {xs : List UInt8} {k : Nat} (h : Rd w B A n 1 byteE xs) (hk : k < n) :
    ∃ b o x, A = some ⟨b, o, none⟩ ∧ b < B ∧ xs[k]? = some x ∧ w.cell? ⟨b, o + k, none⟩ = some (.int .u8 (x.toNat : Int)) := by
  obtain ⟨b, o, hA, hb, x, hx, hc⟩ := h.at_ hk
  exact ⟨b, o, x, hA, hb, hx, by simpa using hc 0 _ rfl⟩
theorem Src.keep {w w' : World} {g K : Nat} (h : Src w g K) (hb : w'.heap[g]? = w.heap[g]?) (hr : ∀ p : Addr, p.block < g → w'.cell? p = w.cell? p) : Src w' g K := by
  obtain ⟨A, n, c, k, bs, z, h1, h2, h3, h4, h5⟩ := h
  exact ⟨A, n, c, k, bs, z, h1, h2, h3, hb.trans h4, h5.keep hr⟩

theorem wraps_63 (n : Int) (h₀ : 0 ≤ n) (h₁ : n < 2 ^ 63) : IntKind.u64.wrap n = n := by rw [IntKind.wrap_u64]; omega
theorem and_255 (z : Int) (h0 : 0 ≤ z) (h1 : z < 18446744073709551616) : 0 ≤ wrap64 (bits .and .u64 (z / 1099511627776) 255) ∧ wrap64 (bits .and .u64 (z / 1099511627776) 255) < 256 := by
  have h := bits_mask .u64 63 (by decide) wraps_63 8 (by decide) (z / 1099511627776) (by omega) (by omega)
  have e : ((2 : Int) ^ 8 - 1) = 255 := by decide
  have e2 : ((2 : Int) ^ 8) = 256 := by decide
  rw [e, e2] at h
  rw [h, IntWalk.wrap64_in _ (by omega)]
  omega
theorem u64_of (z : Int) : U64 (IntKind.u64.wrap z) := by
  unfold U64; rw [IntKind.wrap_u64]; omega
set_option maxHeartbeats 1000000 in
theorem next_any (g K : Nat) (w : World) (h : Src w g K) (hK : K ≤ 1000000000) :
    Calls Try.prog 47 #[.pointer (some ⟨g, 0, none⟩)] w (Draw w g (K + 1) 256) := by
  obtain ⟨A, n, c, k, bs, z, hk, hn, hz, hB, hr⟩ := h
  have hg := hB.lt
  obtain ⟨c0, c1, c2⟩ := hB.three
  have hup := upc w.heap.size w
  by_cases hlt : k < n
  · obtain ⟨b, o, x, rfl, hb, gx, cx⟩ := hr.byte hlt
    have hxx : (x.toNat : Int) < 256 := by have := x.toNat_lt; omega
    have i1 : (0 : Int) ≤ k := by omega
    have i2 : (k : Int) < n := by omega
    have i3 : (k : Int) + 1 ≤ n := by omega
    go_enter Try.func47, Try.ntmps47
    go_wp2_with fail
    refine wp_region_up w.heap.size (by kernel_rfl) (by kernel_rfl) ?_
    repeat (go_big_quiet_step (fail))
    refine wpQuiet_nil ?_
    intro w2 hup_w2
    have hb2 := up_of hup_w2
    have hB2 := hB.next hb2
    have hg2 := hB2.lt
    have hbb2 : b < w2.heap.size := by omega
    obtain ⟨d0, d1, d2⟩ := hB2.three
    have hu2 := upc w2.heap.size w2
    have cx2 := (hb2.cell (p := ⟨b, o + k, none⟩) (by show b < _; omega)).trans cx
    go_wp2_with fail
    refine wp_region_up w2.heap.size (by kernel_rfl) (by kernel_rfl) ?_
    repeat (go_big_quiet_step (fail))
    refine wpQuiet_nil ?_
    intro w3 hup_w3
    have hb3 := up_of hup_w3
    have hB3 := hB2.next hb3
    have hg3 := hB3.lt
    obtain ⟨e0, e1, e2⟩ := hB3.three
    have f3 := hB3.frozen
    go_wp2_with fail
    refine named fun w4 H4 => ?_
    obtain ⟨z', hz', hB4⟩ : ∃ z', U64 z' ∧ Blk w4 g 79 #[.slice (some ⟨b, o, none⟩) n c, .int .i64 ((k + 1 : Nat) : Int), .int .u64 z'] := by
      rw [H4.out]; exact ⟨_, u64_of _, (hB3.set_ 1 _).set_ 2 _⟩
    have hg4 := hB4.lt
    obtain ⟨x0, x1, x2⟩ := hB4.three
    have hu4 := upc w4.heap.size w4
    have hz0 := hz'.1; have hz1 := hz'.2
    clear hu2 hup
    refine wp_region_up w4.heap.size (by kernel_rfl) (by kernel_rfl) ?_
    repeat (go_big_quiet_step (fail))
    refine wpQuiet_nil ?_
    intro w5 hup_w5
    have hb5 := up_of hup_w5
    go_wp2_with fail
    go_ret
    refine ⟨_, rfl, by omega, hxx, ⟨_, n, c, k + 1, bs, z', by omega, hn, hz', hB4.next hb5, ?_⟩, ?_⟩
    · have g4 : w3.grownBy w4 (some g) := by rw [H4.out]; exact gb_setCell (gb_set _ _ _ _) _ _
      exact ((((hr.keep fun p hp => hb2.cell (by omega)).keep fun p hp => hb3.cell (by omega)).grown (by omega) g4 (fun k e => by injection e; omega)).keep fun p hp => hb5.cell (by omega))
    · have g4 : w3.grownBy w4 (some g) := by rw [H4.out]; exact gb_setCell (gb_set _ _ _ _) _ _
      exact gb_next (gb_trans (gb_next (gb_below hb2) hb3) g4) hb5
  · have i2 : (n : Int) ≤ k := by omega
    go_enter Try.func47, Try.ntmps47
    go_wp2_with fail
    refine wp_region_up w.heap.size (by kernel_rfl) (by kernel_rfl) ?_
    repeat (go_big_quiet_step (fail))
    refine wpQuiet_nil ?_
    intro w3 hup_w3
    have hb3 := up_of hup_w3
    have hB3 := hB.next hb3
    have hg3 := hB3.lt
    obtain ⟨e0, e1, e2⟩ := hB3.three
    have f3 := hB3.frozen
    go_wp2_with fail
    refine named fun w4 H4 => ?_
    obtain ⟨z', hz', hB4⟩ : ∃ z', U64 z' ∧ Blk w4 g 79 #[.slice A n c, .int .i64 ((k + 1 : Nat) : Int), .int .u64 z'] := by
      rw [H4.out]; exact ⟨_, u64_of _, (hB3.set_ 1 _).set_ 2 _⟩
    have hg4 := hB4.lt
    obtain ⟨x0, x1, x2⟩ := hB4.three
    have hu4 := upc w4.heap.size w4
    have hz0 := hz'.1; have hz1 := hz'.2
    clear hup
    refine wp_region_up w4.heap.size (by kernel_rfl) (by kernel_rfl) ?_
    repeat (go_big_quiet_step (fail))
    refine wpQuiet_nil ?_
    intro w5 hup_w5
    have hb5 := up_of hup_w5
    have hB5 := hB4.next hb5
    obtain ⟨y0, y1, y2⟩ := hB5.three
    go_wp2_with fail
    go_ret
    have hand := and_255 z' hz0 hz1
    have g4 : w3.grownBy w4 (some g) := by rw [H4.out]; exact gb_setCell (gb_set _ _ _ _) _ _
    exact ⟨_, rfl, hand.1, hand.2, ⟨_, n, c, k + 1, bs, z', by omega, hn, hz', hB5,
      (((hr.keep fun p hp => hb3.cell (by omega)).grown (by omega) g4 (fun k e => by injection e; omega)).keep fun p hp => hb5.cell (by omega))⟩, gb_next (gb_trans (gb_below hb3) g4) hb5⟩
theorem Src.mono {w : World} {g K K' : Nat} (h : Src w g K) (hK : K ≤ K') : Src w g K' := by
  obtain ⟨A, n, c, k, bs, z, h1, h2⟩ := h
  exact ⟨A, n, c, k, bs, z, by omega, h2⟩
theorem Src.next {w w' : World} {g K : Nat} (h : Src w g K) (hb : Below w.heap.size w w') : Src w' g K := by
  obtain ⟨A, n, c, k, bs, z, h1, h2, h3, h4, h5⟩ := h
  have := h4.lt
  exact ⟨A, n, c, k, bs, z, h1, h2, h3, h4.next hb, h5.keep fun p hp => hb.cell (by omega)⟩
theorem Src.lt {w : World} {g K : Nat} (h : Src w g K) : g < w.heap.size := by
  obtain ⟨A, n, c, k, bs, z, h1, h2, h3, h4, h5⟩ := h
  exact h4.lt
/-- a write to another block that lies behind -/
theorem Src.grown {w w' : World} {g K : Nat} {r : Option Nat} (h : Src w g K) (hg : w.grownBy w' r) (hr : ∀ k, r = some k → g < k) : Src w' g K := by
  obtain ⟨A, n, c, k, bs, z, h1, h2, h3, h4, h5⟩ := h
  have := h4.lt
  exact ⟨A, n, c, k, bs, z, h1, h2, h3, h4.grown hg (fun e => by have := hr _ e.symm; omega), h5.grown (by omega) hg (fun k e => by have := hr _ e; omega)⟩

set_option maxHeartbeats 400000 in
theorem pick_any (g K : Nat) (n m : Int) (w : World) (h : Src w g K) (hK : K ≤ 100000000) (hn : n ≤ m) (hm : 1 ≤ m) :
    Calls Try.prog 21 #[.pointer (some ⟨g, 0, none⟩), .int .i64 n] w (Draw w g (K + 2) m) := by
  by_cases h1 : n ≤ 1
  · go_enter Try.func21, Try.ntmps21
    go_wp2_with fail
    go_ret
    exact ⟨0, rfl, by omega, by omega, h.mono (by omega), World.grownBy.refl _ _⟩
  by_cases h2 : n ≤ 200
  · go_enter Try.func21, Try.ntmps21
    go_wp2_with fail
    refine (next_any g K _ h (by omega)).mono ?_
    rintro e w1 ⟨v, rfl, v0, v1, s1, g1⟩
    go_wp2_with fail
    go_ret
    exact ⟨_, rfl, Int.emod_nonneg _ (by omega), by have := Int.emod_lt_of_pos v (show 0 < n by omega); omega, s1.mono (by omega), g1⟩
  · go_enter Try.func21, Try.ntmps21
    go_wp2_with fail
    refine (next_any g K _ h (by omega)).mono ?_
    rintro e w1 ⟨v, rfl, v0, v1, s1, g1⟩
    go_wp2_with fail
    refine (next_any g (K + 1) _ s1 (by omega)).mono ?_
    rintro e w2 ⟨v', rfl, v0', v1', s2, g2⟩
    go_wp2_with fail
    go_ret
    exact ⟨_, rfl, Int.emod_nonneg _ (by omega), by have := Int.emod_lt_of_pos (v * 256 + v') (show 0 < n by omega); omega, s2, gb_trans g1 g2⟩
def DrawB (w : World) (g K : Nat) (e : Ending) (w' : World) : Prop := ∃ b : Bool, e = .returned (.bool b) ∧ Src w' g K ∧ w.grownBy w' (some g)
theorem one_any (g K : Nat) (n : Int) (w : World) (h : Src w g K) (hK : K ≤ 100000000) (hn : n ≤ 1000) :
    Calls Try.prog 43 #[.pointer (some ⟨g, 0, none⟩), .int .i64 n] w (DrawB w g (K + 2)) := by
  go_enter Try.func43, Try.ntmps43
  go_wp2_with fail
  refine (pick_any g K n 1000 _ h hK hn (by omega)).mono ?_
  rintro e w1 ⟨v, rfl, v0, v1, s1, g1⟩
  go_wp2_with fail
  go_ret
  exact ⟨_, rfl, s1, g1⟩
end Go.Proofs.Ytajfjgemfnfakaa


/-
  The draw of a plain word: its letters are right, and it is not too long.
-/
namespace Go.Proofs.Ytajfjgemfnfakaa
open Go.RowKit

theorem elem_byte : Elem Try.prog 22 5 1 1 := Elem.mk' (z := .int .u8 0) Try.underlying22 (by kernel_rfl) rfl
/-- what the draw of a word leaves -/
def StrDraw (w : World) (g K : Nat) (most : Int) (e : Ending) (w' : World) : Prop :=
  ∃ s : ByteArray, e = .returned (.string s) ∧ (s.size : Int) ≤ most ∧ s.data.toList.all letB = true ∧ Src w' g K ∧ w.grownBy w' (some g)
theorem byteE_of {v : Int} (h0 : 0 ≤ v) (h1 : v < 4) : #[Value.int .u8 (97 + v)].toList = byteE (UInt8.ofNat (97 + v.toNat)) ∧ letB (UInt8.ofNat (97 + v.toNat)) = true := by
  obtain ⟨j, rfl⟩ := Int.eq_ofNat_of_zero_le h0
  have e : (UInt8.ofNat (97 + j)).toNat = 97 + j := by rw [UInt8.toNat_ofNat']; omega
  constructor
  · simp only [byteE, Int.toNat_natCast, e]; simp
  · simp only [letB, Int.toNat_natCast, e]; simp; omega

theorem conv_own {w : World} {base n c : Nat} {A : Option Addr} {bs : List UInt8} (h : w.ownsRow base 5 1 (.slice A n c) n (bs.flatMap byteE)) (hl : bs.length = n) :
    (convert 22 9 (.slice A n c)).run Try.prog w = .ok (.string ⟨bs.toArray⟩) w := by
  subst hl
  cases A with
  | some a =>
    refine run_convert_bytes_back (P := Try.prog) w _ _ 5 a c bs Try.underlying22 Try.underlying5 Try.underlying9 fun j hj => ?_
    obtain ⟨g, cap, hv, _, _⟩ := h.form (by omega)
    obtain rfl := Option.some.inj (show some a = some ⟨g, 0, none⟩ from by injection hv)
    have := h.cells (g := g) rfl j _ (by
      have := flat_at (enc := byteE) (sz := 1) bs (fun _ _ => rfl) j _ (List.getElem?_eq_getElem hj) 0 (by omega)
      rw [Nat.mul_one, Nat.add_zero] at this
      rw [this]; rfl)
    simpa using this
  | none =>
    rcases h.2 with ⟨h1, h2⟩ | ⟨g, cap, cur, hv, _⟩
    · obtain rfl : bs = [] := List.eq_nil_of_length_eq_zero (by omega)
      rw [run_convert_bytes_string w _ _ 5 none _ c Try.underlying22 Try.underlying5 Try.underlying9]
      simp [Conv.bytesToString, go_sem]
      rfl
    · cases hv
theorem ext_let {s : ByteArray} (h : s.data.toList.all letB = true) (i j : Nat) : (s.extract i j).data.toList.all letB = true := by
  rw [ByteArray.data_extract, Array.toList_extract]
  rw [List.all_eq_true] at *
  intro x hx
  exact h x (List.mem_of_mem_drop (List.mem_of_mem_take hx))
set_option maxHeartbeats 1000000 in
set_option maxRecDepth 100000 in
theorem l01Drawn_any (g K : Nat) (most : Int) (w : World) (h : Src w g K) (hK : K ≤ 10000000) (hm0 : 0 ≤ most) (hm : most ≤ 100000) :
    Calls Try.prog 25 #[.pointer (some ⟨g, 0, none⟩), .int .i64 most] w (StrDraw w g (K + 1000000) most) := by
  have hg := h.lt
  go_enter Try.func25, Try.ntmps25
  go_wp2_with fail
  refine (pick_any g K 3 3 _ h (by omega) (by omega) (by omega)).mono ?_
  rintro e w1 ⟨v, rfl, v0, v1, s1, g1⟩
  go_wp2_with fail
  have g1' := gb_trans g1 (World.grownBy_alloc w1 (.cells #[] 5) _)
  refine (pick_any g (K + 2) (most + 1) (most + 1) _ (s1.grown (World.grownBy_alloc w1 (.cells #[] 5) none) (fun k e => by cases e)) (by omega) (by omega) (by omega)).mono ?_
  rintro e w2 ⟨k, rfl, k0, k1, s2, g2⟩
  have g2' := Lib.hid (gb_trans g1' g2)
  have own2 := Lib.hid (own_kept (by simpa using World.ownsRow_made (base := w.heap.size) (e := 5) (size := 1) w1 #[] 0 (by have := g1.size; omega) (by unfold maxLen; omega) rfl) g2 hg)
  have S2 := Lib.hid s2
  clear s2 g2 g1' g1 s1 h
  go_wp2_with fail
  go_loopw [6, 7] (fun o_ k_ w' => ∃ (z : Int) (out : List UInt8) (A : Option Addr) (n c : Nat), k_ = .int .i64 z ∧ o_ = .slice A n c ∧ 0 ≤ z ∧ (n : Int) + z ≤ most ∧ Hid (out.length = n) ∧
      Hid (w'.ownsRow w.heap.size 5 1 (.slice A n c) n (out.flatMap byteE)) ∧ Hid (out.all letB = true) ∧ Hid (Src w' g (K + 4 + 2 * n)) ∧ Hid (w.grownBy w' (some g))) (fun _ k_ _ => (intOf k_).toNat)
  case atStart => exact ⟨k, [], _, 0, 0, rfl, rfl, k0, by omega, Lib.hid rfl, own2, Lib.hid rfl, S2, g2'⟩
  case round =>
    obtain ⟨z, out, A, n, c, rfl, rfl, hz0, hz1, ho, hown, hlet, hs, hgr⟩ := hrel
    by_cases hlt : 0 < z
    · go_wp2_with fail
      refine (pick_any g (K + 4 + 2 * n) (1 + v) 3 _ hs.out (by omega) (by omega) (by omega)).mono ?_
      rintro e w3 ⟨u, rfl, u0, u1, s3, g3⟩
      obtain ⟨hb1, hb2⟩ := byteE_of u0 (show u < 4 by omega)
      have Hb1 := Lib.hid hb1; have Hb2 := Lib.hid hb2; clear hb1 hb2
      have own3 := Lib.hid (own_kept hown.out g3 hg)
      have gr3 := Lib.hid (gb_trans hgr.out g3)
      have sz3 := gr3.out.size
      have S3 := Lib.hid s3; clear s3
      have G3 := Lib.hid g3; clear g3
      go_wp2_with
        (at_builtin
         refine wpList_pushG rfl _ _ _ rfl w.heap.size 5 1 1 elem_byte byteE A n c out rfl (own3.out.alloc _) w3.heap.size (UInt8.ofNat (97 + u.toNat)) #[.int .u8 (97 + u)] 5 (0, 0) rfl (heap_alloc_new _ _) Hb1.out rfl (by simp [byteE, Value.oneCell']) (by omega) (by omega) (by unfold maxLen; omega) (by simp; omega) ?_
         intro A' c' w4 own4 hg4 hat4
         have Own4 := Lib.hid own4; clear own4
         have Gr4 := Lib.hid (gb_weak' (gb_trans gr3.out (World.grownBy_alloc _ _ _)) hg4 (own_ge own3.out))
         have S4 := Lib.hid ((S3.out.grown (World.grownBy_alloc _ _ none) (fun k e => by cases e)).grown hg4 (fun k e => by have := own_ge own3.out k e; omega))
         clear hat4 hg4)
      go_roundw
      case rel => exact ⟨z - 1, out ++ [UInt8.ofNat (97 + u.toNat)], A', n + 1, c', by go_num, rfl, by omega, by omega, Lib.hid (by rw [List.length_append, ho.out]; rfl), Own4, Lib.hid (by rw [List.all_append, hlet.out]; simpa using Hb2.out), Lib.hid (S4.out.mono (by omega)), Gr4⟩
      case measure => simp [intOf]; omega
    · have hcv := conv_own hown.out ho.out
      go_wp2_with fail
      refine (one_any g (K + 4 + 2 * n) 3 _ hs.out (by omega) (by omega)).mono ?_
      rintro e w3 ⟨b, rfl, s3, g3⟩
      have gr3 := Lib.hid (gb_trans hgr.out g3)
      have S3 := Lib.hid s3; clear s3 g3
      have hsz : (⟨out.toArray⟩ : ByteArray).size = n := by rw [← ho.out]; simp [ByteArray.size]
      have Hlet : Hid ((⟨out.toArray⟩ : ByteArray).data.toList.all letB = true) := by simpa using hlet
      generalize (⟨out.toArray⟩ : ByteArray) = s at *
      have hs1 : s.size ≤ n := by omega
      have hs2 : n ≤ s.size := by omega
      clear hsz
      by_cases hn0 : s.size = 0
      · cases b
        all_goals
          go_wp2_with fail
          go_ret
          exact ⟨s, rfl, by omega, Hlet.out, S3.out.mono (by omega), gr3.out⟩
      cases b
      · go_wp2_with fail
        go_ret
        exact ⟨s, rfl, by omega, Hlet.out, S3.out.mono (by omega), gr3.out⟩
      have hn1 : 0 < s.size := by omega
      clear hn0
      go_wp2_with fail
      refine (pick_any g (K + 4 + 2 * n + 2) s.size s.size _ S3.out (by omega) (by omega) (by omega)).mono ?_
      rintro e w4 ⟨p, rfl, p0, p1, s4, g4⟩
      have gr4 := Lib.hid (gb_trans gr3.out g4)
      have S4 := Lib.hid s4; clear s4 g4 gr3 S3 hown hs hgr own2 S2 g2' ho hlet hcv
      have hex := Lib.hid (ext_let Hlet.out 0 (1 + p).toNat)
      have hes : (s.extract 0 (1 + p).toNat).size = min (1 + p).toNat s.size - 0 := ByteArray.size_extract
      have he1 : (s.extract 0 (1 + p).toNat).size ≤ s.size := by omega
      have he2 : 0 < (s.extract 0 (1 + p).toNat).size := by omega
      go_wp2_with fail
      go_loopw [9] (fun r_ w' => ∃ r : ByteArray, r_ = .string r ∧ 0 < r.size ∧ r.size ≤ 200000 ∧ Hid (r.data.toList.all letB = true) ∧ Hid (Src w' g (K + 8 + 2 * n + 2 * r.size)) ∧ Hid (w.grownBy w' (some g))) (fun r_ _ => most.toNat - strLen r_)
      case atStart => exact ⟨_, rfl, he2, by omega, hex, Lib.hid (S4.out.mono (by omega)), gr4⟩
      case round =>
        obtain ⟨r, rfl, hr0, hr1, hrl, hrs, hrg⟩ := hrel
        clear he1 he2 hes hex gr4 S4
        by_cases hlt2 : (r.size : Int) < most
        · go_wp2_with fail
          refine (one_any g (K + 8 + 2 * n + 2 * r.size) 2 _ hrs.out (by omega) (by omega)).mono ?_
          rintro e w5 ⟨b, rfl, s5, g5⟩
          have gr5 := Lib.hid (gb_trans hrg.out g5)
          have S5 := Lib.hid s5; clear s5 g5
          cases b
          · have hle : decide ((r.size : Int) ≤ most) = true := decide_eq_true (by omega)
            go_wp2_with fail
            go_ret
            exact ⟨r, rfl, by omega, hrl.out, S5.out.mono (by omega), gr5.out⟩
          · have hrr : (r ++ r).size = r.size + r.size := ByteArray.size_append
            have hl2 := Lib.hid (show (r ++ r).data.toList.all letB = true by rw [ByteArray.data_append, Array.toList_append, List.all_append, hrl.out]; rfl)
            have Hrr := Lib.hid hrr; clear hrr
            go_wp2_with fail
            go_roundw
            case rel => exact ⟨r ++ r, rfl, by rw [Hrr.out]; omega, by rw [Hrr.out]; omega, hl2, Lib.hid (S5.out.mono (by rw [Hrr.out]; omega)), gr5⟩
            case measure => simp [strLen]; omega
        · by_cases hle : (r.size : Int) ≤ most
          · go_wp2_with fail
            go_ret
            exact ⟨r, rfl, by omega, hrl.out, hrs.out.mono (by omega), hrg.out⟩
          · go_wp2_with fail
            go_ret
            exact ⟨s, rfl, by omega, Hlet.out, hrs.out.mono (by omega), hrg.out⟩
end Go.Proofs.Ytajfjgemfnfakaa


/-
  A region that draws its order, in which two or three operations that write may come up; a copy into a new row.
-/
namespace Go.Proofs.Ytajfjgemfnfakaa
open Go.RowKit

section
variable {P : Program} {ops : Array Oper} {Q : Exit → Act → World → Prop} {md : Region.Mode} {S : World → Prop} {N : List Nat}
/-- what is to be shown of one that comes up -/
def UpN (P : Program) (ops : Array Oper) (Q : Exit → Act → World → Prop) (md : Region.Mode) (S : World → Prop) (N : List Nat) (fuel : Nat) (listed : Array Bool) (a : Act) (w : World) (i : Nat) (o : Oper) : Prop :=
  ∀ K' : Act → World → Prop, Shut (∀ a w, (N.contains i = false → S w) → wpAnyN P md ops Q S N fuel (listed.setIfInBounds i true) a w → K' a w) → if Region.wanted o (yielded ops a.tmps) = true then Oper.wp P o a w K' Q else K' (a.put o.dst undef) w
theorem wpAnyN_2 {i j : Nat} {o o' : Oper} {fuel : Nat} {listed : Array Bool} {a : Act} {w : World} (ho : ops[i]? = some o) (ho' : ops[j]? = some o') (hr : Region.ready md ops listed = [i, j])
    (h : UpN P ops Q md S N fuel listed a w i o) (h' : UpN P ops Q md S N fuel listed a w j o') : wpAnyN P md ops Q S N (fuel + 1) listed a w := by
  refine ⟨fun h0 => (by rw [h0] at hr; cases hr), fun k hk => ?_⟩
  rw [hr] at hk
  rcases List.mem_cons.1 hk with rfl | hk
  · exact wpOp_step ho (fun K' hK => h K' (fun a w hS hW => hK a w ⟨hS, hW⟩))
  · obtain rfl : k = j := by simpa using hk
    exact wpOp_step ho' (fun K' hK => h' K' (fun a w hS hW => hK a w ⟨hS, hW⟩))
theorem wpAnyN_3 {i j l : Nat} {o o' o'' : Oper} {fuel : Nat} {listed : Array Bool} {a : Act} {w : World} (ho : ops[i]? = some o) (ho' : ops[j]? = some o') (ho'' : ops[l]? = some o'') (hr : Region.ready md ops listed = [i, j, l])
    (h : UpN P ops Q md S N fuel listed a w i o) (h' : UpN P ops Q md S N fuel listed a w j o') (h'' : UpN P ops Q md S N fuel listed a w l o'') : wpAnyN P md ops Q S N (fuel + 1) listed a w := by
  refine ⟨fun h0 => (by rw [h0] at hr; cases hr), fun k hk => ?_⟩
  rw [hr] at hk
  rcases List.mem_cons.1 hk with rfl | hk
  · exact wpOp_step ho (fun K' hK => h K' (fun a w hS hW => hK a w ⟨hS, hW⟩))
  · rcases List.mem_cons.1 hk with rfl | hk
    · exact wpOp_step ho' (fun K' hK => h' K' (fun a w hS hW => hK a w ⟨hS, hW⟩))
    · obtain rfl : k = l := by simpa using hk
      exact wpOp_step ho'' (fun K' hK => h'' K' (fun a w hS hW => hK a w ⟨hS, hW⟩))
end
section
variable {α : Type} {P : Program} {w : World} {ops : Array Oper} {o : Oper} {a : Act} {K : Act → World → Prop} {Q : Exit → Act → World → Prop} {E : Prop}
/-- all elements into a new row, as a step of a region that draws its order; where the row lies then -/
theorem step_copyL (hgd : o.guard = none) (s x : Operand) (t : TypeId) (ho : o.op = .call { callee := .builtin .append, args := #[s, x], argTypes := #[t, t] })
    (base : Nat) (e : TypeId) (sz bytes : Nat) (EI : Elem P t e sz bytes) (enc : α → List Value) (e0 : Nat) (hs : a.eval s = .slice (some ⟨e0, 0, none⟩) 0 0)
    (hown : w.ownsRow base e sz (.slice (some ⟨e0, 0, none⟩) 0 0) 0 []) (ad : Addr) (m cc : Nat) (ys : List α) (hx : a.eval x = .slice (some ad) m cc) (hym : ys.length = m) (hm0 : 0 < m) (hnews : ∀ j u, (ys.flatMap enc)[j]? = some u → w.cell? (ad.add j) = some u)
    (hlen : ∀ y ∈ ys, (enc y).length = sz) (hone : ∀ y ∈ ys, ∀ u ∈ enc y, u.oneCell' = true) (hsz : 0 < sz) (hbytes : m * bytes ≤ 140737488355328) (hm : m ≤ maxLen) (hsize : base ≤ w.heap.size)
    (h : ∀ A' c' w', w'.ownsRow base e sz (.slice A' m c') m (ys.flatMap enc) → w.grownBy w' (some e0) → ((Value.slice A' m c').ownBlock = some e0 ∨ (Value.slice A' m c').ownBlock = some w.heap.size) → K (a.put o.dst (.slice A' m c')) w') :
    if Region.wanted o (yielded ops a.tmps) = true then Oper.wp P o a w K Q else E := by
  obtain ⟨ht, i, z, hi, hz, h1, h2, hzs⟩ := EI
  obtain ⟨v', w', hr, r2, r3, _, r5⟩ := run_append_own_at (P := P) w base t o.type e i z sz bytes ht hi hz h1 h2 hzs hsz _ 0 _ hown ad m cc (ys.flatMap enc) (by rw [flat_len ys hlen, hym]) hnews
    (fun u hu => by obtain ⟨y, hy, hu⟩ := List.mem_flatMap.1 hu; exact hone y hy u hu) (by omega) (by rw [Nat.zero_add]; exact hbytes) hsize
  rw [Nat.zero_add, List.nil_append] at r2
  obtain ⟨g', cap, rfl, _, _⟩ := r2.form (by omega)
  have hw : Region.wanted o (yielded ops a.tmps) = true := by simp [Region.wanted, hgd]
  rw [if_pos hw]
  unfold Oper.wp execOp
  simp only [ho, resolve, invoke, builtin, Sem.run_bind, Sem.run_pure, Result.andThen_ok, List.map_toArray, List.map_cons, List.map_nil, hs, hx, hr]
  exact h _ _ w' r2 r3 r5
end
end Go.Proofs.Ytajfjgemfnfakaa


/-
  The grammar of a plain word in the program: the small functions.
-/
namespace Go.Proofs.Ytajfjgemfnfakaa
open Go.RowKit

theorem conv_letter (W : World) (g c : Nat) (b : UInt8) (h : W.cell? ⟨g, 0, none⟩ = some (.int .u8 (b.toNat : Int))) : (convert 22 9 (.slice (some ⟨g, 0, none⟩) 1 c)).run Try.prog W = .ok (.string ⟨#[b]⟩) W := by
  refine run_convert_bytes_back (P := Try.prog) W _ _ 5 ⟨g, 0, none⟩ c [b] Try.underlying22 Try.underlying5 Try.underlying9 fun j hj => ?_
  obtain rfl : j = 0 := by simpa using hj
  simp [Addr.add, h]
theorem indexByte_mem (l : List UInt8) (c : UInt8) : (0 ≤ Lib.indexByte l c) ↔ c ∈ l := by
  induction l with
  | nil => simp [Lib.indexByte]
  | cons b l ih =>
    unfold Lib.indexByte
    have := Lib.indexByte_ge l c
    by_cases hb : b = c
    · simp [hb]
    · have hb' : (b == c) = false := by simpa using hb
      rw [hb']
      simp only [Bool.false_eq_true, if_false, List.mem_cons, (Ne.symm hb : c ≠ b), false_or, ← ih]
      by_cases h1 : Lib.indexByte l c = -1
      · simp [h1]
      · have : (Lib.indexByte l c == -1) = false := by simpa using h1
        rw [this]; simp; omega
end Go.Proofs.Ytajfjgemfnfakaa


/-
  The draw of a grammar: it is valid, and its word is not too long.
-/
namespace Go.Proofs.Ytajfjgemfnfakaa
open Go.RowKit

/-- a grammar that is drawn under way -/
structure DgW (w W : World) (g K : Nat) (A : Option Addr) (n c : Nat) (rs : List Fac) : Prop where
  q : W.ownsRow w.heap.size 59 3 (.slice A n c) n (rs.flatMap Fac.cells)
  r : Blk W w.heap.size 26 #[.slice none 0 0]
  x : Blk W (w.heap.size + 1) 26 #[.slice A n c]
  s : Src W g K
  e : w.grownBy W (some g)
  hg : g < w.heap.size
section
variable {w W W' : World} {g K : Nat} {A : Option Addr} {n c : Nat} {rs : List Fac}
theorem DgW.next (h : DgW w W g K A n c rs) (hb : Below W.heap.size W W') : DgW w W' g K A n c rs := ⟨own_next h.q hb, h.r.next hb, h.x.next hb, h.s.next hb, gb_next h.e hb, h.hg⟩
theorem DgW.alloc (h : DgW w W g K A n c rs) (o : Obj) : DgW w (W.alloc o) g K A n c rs := h.next ((Below.refl _ _).alloc (Nat.le_refl _) _)
theorem DgW.pick {K' : Nat} (h : DgW w W g K A n c rs) (hs : Src W' g K') (hg : W.grownBy W' (some g)) : DgW w W' g K' A n c rs :=
  ⟨own_kept h.q hg h.hg, h.r.grown hg (by intro e; injection e with e; have := h.hg; omega), h.x.grown hg (by intro e; injection e with e; have := h.hg; omega), hs, gb_trans h.e hg, h.hg⟩
theorem DgW.keepAt {ga b : Nat} (h : DgW w W g K (some ⟨ga, 0, none⟩) n c rs) (hg : W.grownBy W' (some b)) (hb : w.heap.size + 2 ≤ b) (hne : ga ≠ b) : DgW w W' g K (some ⟨ga, 0, none⟩) n c rs :=
  ⟨h.q.kept hg (.inr (by intro e; have e2 : some ga = some b := e; injection e2 with e2; exact hne e2)), h.r.grown hg (by intro e; injection e with e; omega), h.x.grown hg (by intro e; injection e with e; omega), h.s.grown hg (fun k e => by injection e with e; have := h.hg; omega),
    gb_weak h.e hg (by omega), h.hg⟩
theorem DgW.news {ga : Nat} (h : DgW w W g K (some ⟨ga, 0, none⟩) n c rs) : ∀ j u, (rs.flatMap Fac.cells)[j]? = some u → W.cell? ((⟨ga, 0, none⟩ : Addr).add j) = some u := fun j u hu => h.q.cells (g := ga) rfl j u hu
/-- the grammar is put anew -/
theorem DgW.put {A' : Option Addr} {n' c' : Nat} {rs' : List Fac} (h : DgW w W g K A n c rs) (hq : W.ownsRow w.heap.size 59 3 (.slice A' n' c') n' (rs'.flatMap Fac.cells)) : DgW w (W.setCell ⟨w.heap.size + 1, 0, none⟩ (.slice A' n' c')) g K A' n' c' rs' := by
  have hg := gb_set W (w.heap.size + 1) 0 (.slice A' n' c')
  exact ⟨own_kept' hq h.x (by decide) _, h.r.grown hg (by intro e; injection e with e; omega), h.x.set_ 0 _, h.s.grown hg (fun k e => by injection e with e; have := h.hg; omega), gb_weak h.e hg (by omega), h.hg⟩
/-- the result told -/
theorem DgW.done (h : DgW w W g K A n c rs) (hl : rs.length = n) : (W.setCell ⟨w.heap.size, 0, none⟩ (.slice A n c)).ownsRow w.heap.size 59 3 (.slice A rs.length c) rs.length (rs.flatMap Fac.cells) ∧
    Src (W.setCell ⟨w.heap.size, 0, none⟩ (.slice A n c)) g K ∧ w.grownBy (W.setCell ⟨w.heap.size, 0, none⟩ (.slice A n c)) (some g) := by
  have hg := gb_set W w.heap.size 0 (.slice A n c)
  rw [hl]
  exact ⟨own_kept' h.q h.r (by decide) _, h.s.grown hg (fun k e => by injection e with e; have := h.hg; omega), gb_weak h.e hg (Nat.le_refl _)⟩
/-- one rule more in the row, the grammar put anew -/
theorem DgW.push {A' : Option Addr} {n' c' : Nat} {rs' : List Fac} (h : DgW w W g K A n c rs) (hq : W'.ownsRow w.heap.size 59 3 (.slice A' n' c') n' (rs'.flatMap Fac.cells)) (hg : W.grownBy W' (Value.slice A n c).ownBlock) :
    DgW w (W'.setCell ⟨w.heap.size + 1, 0, none⟩ (.slice A' n' c')) g K A' n' c' rs' := by
  have hx := h.x.grown hg (own_blk_ne h.q h.x (by decide))
  have hg2 := gb_set W' (w.heap.size + 1) 0 (.slice A' n' c')
  have hs := h.s.grown hg (fun k e => by have := own_ge h.q k e; have := h.hg; omega)
  exact ⟨own_kept' hq hx (by decide) _, (h.r.grown hg (own_blk_ne h.q h.r (by decide))).grown hg2 (by intro e; injection e with e; omega), hx.set_ 0 _, hs.grown hg2 (fun k e => by injection e with e; have := h.hg; omega),
    gb_weak (gb_weak' h.e hg (own_ge h.q)) hg2 (by omega), h.hg⟩
end
/-- what is drawn -/
structure DgOk (rs : List Fac) (most : Int) : Prop where
  wf : WF rs
  pos : 0 < rs.length
  few : rs.length ≤ 14
  len : ((wdN rs).length : Int) ≤ most
def GrDraw (w : World) (g K : Nat) (most : Int) (e : Ending) (w' : World) : Prop :=
  ∃ A c rs, e = .returned (.agg #[.slice A rs.length c]) ∧ DgOk rs most ∧ w'.ownsRow w.heap.size 59 3 (.slice A rs.length c) rs.length (rs.flatMap Fac.cells) ∧ Src w' g K ∧ w.grownBy w' (some g)
def ltR (k : Nat) : List Fac := (List.range k).map fun i => ruleC (UInt8.ofNat (97 + i))
theorem ltR_succ (k : Nat) : ltR (k + 1) = ltR k ++ [ruleC (UInt8.ofNat (97 + k))] := by unfold ltR; rw [List.range_succ, List.map_append]; rfl
theorem ltR_len (k : Nat) : (ltR k).length = k := by simp [ltR]
theorem ltR_wf {k : Nat} (hk : k ≤ 4) : WF (ltR k) := fun i r hr => by
  unfold ltR at hr
  rw [List.getElem?_map] at hr
  obtain ⟨j, hj, rfl⟩ := Option.map_eq_some_iff.1 hr
  have hj2 : j < k := by have := List.mem_of_getElem? hj; simpa using this
  have e : (UInt8.ofNat (97 + j)).toNat = 97 + j := by rw [UInt8.toNat_ofNat']; omega
  exact .inr ⟨_, by simp [letB, e]; omega, rfl, rfl, rfl⟩
theorem ltR_ok {k : Nat} (h0 : 0 < k) (hk : k ≤ 4) {most : Int} (hm : 1 ≤ most) : DgOk (ltR k) most := by
  refine ⟨ltR_wf hk, by rw [ltR_len]; exact h0, by rw [ltR_len]; omega, ?_⟩
  obtain ⟨j, rfl⟩ : ∃ j, k = j + 1 := ⟨k - 1, by omega⟩
  have e : wdN (ltR (j + 1)) = [(UInt8.ofNat (97 + j)).toNat - 97] := by
    unfold wdN
    rw [if_neg (by intro e; have := ltR_len (j + 1); rw [e] at this; simp at this), ltR_len]
    refine wds_one (r := ruleC (UInt8.ofNat (97 + j))) (c := UInt8.ofNat (97 + j)) ?_ rfl
    rw [ltR_succ, List.getElem?_append_right (by rw [ltR_len]; omega), ltR_len]
    simp
  rw [e]; simpa using hm
theorem dg_gok {rs : List Fac} (hwf : WF rs) (hn : rs.length ≤ 15) : (gOk rs).isSome = true := small_ok hwf (by omega)
theorem wf_sz {rs : List Fac} (hwf : WF rs) : ∀ f ∈ rs, f.l.size ≤ maxLen := by
  intro f hf
  obtain ⟨k, hk, rfl⟩ := List.getElem_of_mem hf
  rcases hwf k _ (List.getElem?_eq_getElem hk) with ⟨h0, _⟩ | ⟨c, _, hl, _⟩
  · unfold maxLen; omega
  · rw [hl]; show 1 ≤ maxLen; unfold maxLen; omega
theorem wf_snoc' {rs : List Fac} (h : WF rs) {l r : Int} (l0 : 0 ≤ l) (l1 : l < rs.length) (r0 : 0 ≤ r) (r1 : r < rs.length) : WF (rs ++ [⟨.empty, l, r⟩]) := wf_snoc h ⟨l0, l1⟩ ⟨r0, r1⟩
set_option maxHeartbeats 16000000 in
set_option maxRecDepth 100000 in
theorem l02Drawn_any (g K : Nat) (most : Int) (w : World) (h : Src w g K) (hK : K ≤ 10000000) (hm0 : 1 ≤ most) (hm : most ≤ 100000) :
    Calls Try.prog 20 #[.pointer (some ⟨g, 0, none⟩), .int .i64 most] w (GrDraw w g (K + 1000) most) := by
  have hg := h.lt
  have H0 := Lib.hid h; clear h
  go_enter Try.func20, Try.ntmps20
  go_wp2_with fail
  refine namedC fun w1 H1 => ?_
  have hb1 : Below w.heap.size w w1 := by rw [H1.out]; (repeat first | exact Below.refl _ _ | assumption | refine Below.drew ?_ | refine Below.alloc ?_ (by first | exact Nat.le_refl _ | (simp; done) | omega | (simp; omega)) _ | refine Below.setCell ?_ (by first | exact Nat.le_refl _ | (simp; done) | omega | (simp; omega)) _)
  have P1 := Lib.hid (show DgW w w1 g K none 0 0 [] from ⟨World.ownsRow_nil _ _ _ _, by rw [H1.out]; exact (Blk.new w _ _).alloc _, by rw [H1.out]; simpa using Blk.new (w.alloc (.cells #[.slice none 0 0] 26)) 26 #[.slice none 0 0], H0.out.next hb1, gb_below hb1, hg⟩)
  clear H1 hb1 H0
  refine (pick_any g K 3 3 w1 P1.out.s (by omega) (by omega) (by omega)).mono ?_
  rintro e w2 ⟨v, rfl, v0, v1, s2, g2⟩
  have P2 := Lib.hid (P1.out.pick s2 g2)
  obtain ⟨L, hL⟩ : ∃ L : Nat, 1 + v = L := ⟨(1 + v).toNat, by omega⟩
  have hL1 : 1 ≤ L := by omega
  have hL3 : L ≤ 3 := by omega
  have um : IntKind.i64.wrap (1 + v) = (L : Int) := by rw [IntWalk.i64_in _ (by omega)]; exact hL
  clear s2 g2 P1
  go_wp2_with fail
  have HLL := Lib.hid hL
  clear um hL v0 v1
  go_loopw [7] (fun k_ w' => ∃ (k : Nat) (A : Option Addr) (c : Nat), k_ = .int .i64 k ∧ k ≤ L ∧ Hid (DgW w w' g (K + 2) A k c (ltR k))) (fun k_ _ => L - (intOf k_).toNat)
  case atStart => exact ⟨0, none, 0, rfl, by omega, P2⟩
  case round =>
    obtain ⟨k, A, c, rfl, hk, P⟩ := hrel
    clear P2
    by_cases hlt : k < L
    · have i1 : (k : Int) < (L : Int) := by omega
      obtain ⟨u, hu⟩ : ∃ u : UInt8, UInt8.ofNat (97 + k) = u := ⟨_, rfl⟩
      have hu' : (u.toNat : Int) = 97 + k := by rw [← hu, UInt8.toNat_ofNat']; omega
      have HU := Lib.hid hu
      have d0 := P.out.x.cell 0
      have dl := P.out.x.lt
      have hcv := conv_letter (wr.alloc (.cells #[.int .u8 (97 + (k : Int))] 5)) wr.heap.size 1 u (by rw [hu']; simp)
      have Q2 := Lib.hid (P.out.alloc (.cells #[.int .u8 (97 + (k : Int))] 5))
      have BN0 := Blk.new (wr.alloc (.cells #[.int .u8 (97 + (k : Int))] 5)) 59 #[.string (ruleC u).l, .int .i64 (ruleC u).a, .int .i64 (ruleC u).b]
      have sz4 : (wr.alloc (.cells #[.int .u8 (97 + (k : Int))] 5)).heap.size = wr.heap.size + 1 := by simp
      rw [sz4] at BN0
      have BN := Lib.hid BN0
      clear BN0 sz4
      have Q3 := Lib.hid (Q2.out.alloc (.cells #[.string ⟨#[u]⟩, .int .i64 0, .int .i64 0] 59))
      clear hu hu'
      go_wp2_with
        (at_builtin
         refine wpList_pushG rfl _ _ _ rfl w.heap.size 59 3 32 elem_rule Fac.cells A k c (ltR k) rfl Q3.out.q (wr.heap.size + 1) (ruleC u) #[.string (ruleC u).l, .int .i64 (ruleC u).a, .int .i64 (ruleC u).b] 59 (0, 0) rfl BN.out rfl rfl (one_fac _) (by omega) (by omega) (by unfold maxLen; omega) (by have := Q3.out.x.lt; omega) ?_
         intro A9 c9 w9 own9 hg9 hat9
         have Q9 := Lib.hid (Q3.out.push own9 hg9)
         have G9 := Q3.out.x.grown hg9 (own_blk_ne Q3.out.q Q3.out.x (by decide))
         have f9 := G9.frozen
         have d9 := G9.cell 0
         have l9 := G9.lt
         clear own9 hg9 hat9 G9)
      go_roundw
      case rel => exact ⟨k + 1, A9, c9, by go_num, by omega, Lib.hid (by rw [ltR_succ, HU.out]; exact Q9.out)⟩
      case measure => simp [intOf]; omega
    · obtain rfl : k = L := by omega
      have ok0 := Lib.hid (ltR_ok (most := most) hL1 (by omega) hm0)
      have HLn0 := Lib.hid (ltR_len k)
      go_wp2_with fail
      refine (pick_any g (K + 2) 12 12 wr P.out.s (by omega) (by omega) (by omega)).mono ?_
      rintro e w3 ⟨z, rfl, z0, z1, s3, g3⟩
      have P3 := Lib.hid (P.out.pick s3 g3)
      clear s3 g3 P
      generalize ltR k = rs0 at *
      go_wp2_with fail
      go_loopw [8] (fun z_ w' => ∃ (z : Nat) (A : Option Addr) (n c K2 : Nat) (rs : List Fac), z_ = .int .i64 z ∧ n + z ≤ 14 ∧ 1 ≤ n ∧ K2 + 10 * z ≤ K + 200 ∧ Hid (rs.length = n) ∧ Hid (DgOk rs most) ∧ Hid (DgW w w' g K2 A n c rs)) (fun z_ _ => (intOf z_).toNat)
      case atStart => exact ⟨z.toNat, _, k, _, K + 2 + 2, rs0, by congr 1; omega, by omega, hL1, by omega, HLn0, ok0, P3⟩
      case round =>
        obtain ⟨z, A, n, c, K2, rs, rfl, hnz, hn1, hK2, HLn, HOk, P⟩ := hrel
        clear P3 ok0 HLn0
        have d0 := P.out.x.cell 0
        have dl := P.out.x.lt
        by_cases hz : 0 < z
        · obtain ⟨ga, cap0, hv0, hga0, hga1⟩ := P.out.q.form hn1
          obtain rfl : A = some ⟨ga, 0, none⟩ := by injection hv0
          have z1 : (0 : Int) < (z : Int) := by omega
          clear hv0 hga0 hga1
          go_wp2_with fail
          refine (pick_any g K2 n n wr P.out.s (by omega) (by omega) (by omega)).mono ?_
          rintro e w3 ⟨v1, rfl, v10, v11, s3, g3⟩
          have P3 := Lib.hid (P.out.pick s3 g3)
          clear s3 g3 d0 dl P
          go_wp2_with fail
          refine (pick_any g (K2 + 2) n n w3 P3.out.s (by omega) (by omega) (by omega)).mono ?_
          rintro e w4 ⟨v2, rfl, v20, v21, s4, g4⟩
          have P4 := Lib.hid (P3.out.pick s4 g4)
          clear s4 g4 P3
          go_wp2_with fail
          refine namedC fun w5 H5 => ?_
          have hb5 : Below w4.heap.size w4 w5 := by rw [H5.out]; (repeat first | exact Below.refl _ _ | assumption | refine Below.drew ?_ | refine Below.alloc ?_ (by first | exact Nat.le_refl _ | (simp; done) | omega | (simp; omega)) _ | refine Below.setCell ?_ (by first | exact Nat.le_refl _ | (simp; done) | omega | (simp; omega)) _)
          have BR5 := Lib.hid (show Blk w5 w4.heap.size 59 #[.string .empty, .int .i64 v1, .int .i64 v2] by rw [H5.out]; exact Blk.new _ _ _)
          have P5 := Lib.hid (P4.out.next hb5)
          have gr0 : w.heap.size + 1 < w4.heap.size := P4.out.x.lt
          have gr1 : ga < w4.heap.size := (P4.out.q.lt ga rfl).2
          clear H5 hb5
          generalize hgr : w4.heap.size = gr at *
          clear hgr P4
          have um : IntKind.i64.wrap ((n : Int) - 1) = ((n - 1 : Nat) : Int) := by rw [IntWalk.i64_in _ (by omega)]; omega
          refine (one_any g (K2 + 2 + 2) 2 w5 P5.out.s (by omega) (by omega)).mono ?_
          rintro e w6 ⟨b1, rfl, s6, g6⟩
          have P6 := Lib.hid (P5.out.pick s6 g6)
          have BR6 := Lib.hid (BR5.out.grown g6 (by intro e; injection e with e; omega))
          have c61 := BR6.out.cell 1
          have c6f := BR6.out.frozen
          have c6l := BR6.out.lt
          clear s6 g6 P5 BR5
          go_upto_if 49 with fail
          go_cut [] (fun wx => ∃ l : Int, 0 ≤ l ∧ l < (n : Int) ∧ Hid (DgW w wx g (K2 + 2 + 2 + 2) (some ⟨ga, 0, none⟩) n c rs) ∧ Hid (Blk wx gr 59 #[.string .empty, .int .i64 l, .int .i64 v2]))
          case first =>
            cases b1
            · go_wp2_with fail
              go_meet
              exact ⟨v1, v10, v11, P6, BR6⟩
            · have P7 := Lib.hid (P6.out.keepAt (gb_set w6 gr 1 (.int .i64 ((n - 1 : Nat) : Int))) (by omega) (by omega))
              have BR7 := Lib.hid (BR6.out.set_ 1 (.int .i64 ((n - 1 : Nat) : Int)))
              go_wp2_with fail
              go_meet
              exact ⟨((n - 1 : Nat) : Int), by omega, by omega, P7, BR7⟩
          case rest =>
            obtain ⟨l, l0, l1, P7, BR7⟩ := hcut
            clear P6 BR6 c61 c6f c6l v10 v11
            go_wp2_with fail
            refine (one_any g (K2 + 2 + 2 + 2) 3 wc P7.out.s (by omega) (by omega)).mono ?_
            rintro e w8 ⟨b2, rfl, s8, g8'⟩
            have P8 := Lib.hid (P7.out.pick s8 g8')
            have BR8 := Lib.hid (BR7.out.grown g8' (by intro e; injection e with e; omega))
            have c81 := BR8.out.cell 2
            have c8f := BR8.out.frozen
            have c8l := BR8.out.lt
            clear s8 g8' P7 BR7
            go_upto_if 54 with fail
            go_cut [] (fun wx => ∃ r : Int, 0 ≤ r ∧ r < (n : Int) ∧ Hid (DgW w wx g (K2 + 2 + 2 + 2 + 2) (some ⟨ga, 0, none⟩) n c rs) ∧ Hid (Blk wx gr 59 #[.string .empty, .int .i64 l, .int .i64 r]))
            case first =>
              cases b2
              · go_wp2_with fail
                go_meet
                exact ⟨v2, v20, v21, P8, BR8⟩
              · have P9 := Lib.hid (P8.out.keepAt (gb_set w8 gr 2 (.int .i64 ((n - 1 : Nat) : Int))) (by omega) (by omega))
                have BR9 := Lib.hid (BR8.out.set_ 2 (.int .i64 ((n - 1 : Nat) : Int)))
                go_wp2_with fail
                go_meet
                exact ⟨((n - 1 : Nat) : Int), by omega, by omega, P9, BR9⟩
            case rest =>
              obtain ⟨r, r0, r1, P, BR⟩ := hcut
              clear P8 BR8 c81 c8f c8l um v20 v21
              have hn0 : 0 < n := hn1
              generalize hK3 : K2 + 2 + 2 + 2 + 2 = K3 at *
              go_upto_region 16 with fail
              go_cut [11] (fun p_ wx => ∃ (g8 : Nat) (A6 : Option Addr) (c6 : Nat), p_ = .pointer (some ⟨g8, 0, none⟩) ∧ Hid (DgW w wx g K3 (some ⟨ga, 0, none⟩) n c rs) ∧ Hid (Blk wx g8 26 #[.slice A6 (n + 1) c6]) ∧
                Hid (wx.ownsRow w.heap.size 59 3 (.slice A6 (n + 1) c6) (n + 1) ((rs ++ [(⟨.empty, l, r⟩ : Fac)]).flatMap Fac.cells)) ∧ Hid (w.heap.size + 1 < g8))
              case first =>
                refine wp_region_N (fun W' => W'.cell? ⟨w.heap.size + 1, 0, none⟩ = some (.slice (some ⟨ga, 0, none⟩) n c) ∧ W'.cell? ⟨gr, 0, none⟩ = some (.string .empty) ∧ W'.cell? ⟨gr, 1, none⟩ = some (.int .i64 l) ∧ W'.cell? ⟨gr, 2, none⟩ = some (.int .i64 r)) [6, 7, 9] (by kernel_rfl) ?_
                have P_0 := Lib.hid (P.out.next (Below.refl _ _).drew)
                have BR_0 := Lib.hid BR.out.drew
                have hS0 : wc.drew.cell? ⟨w.heap.size + 1, 0, none⟩ = some (.slice (some ⟨ga, 0, none⟩) n c) ∧ wc.drew.cell? ⟨gr, 0, none⟩ = some (.string .empty) ∧ wc.drew.cell? ⟨gr, 1, none⟩ = some (.int .i64 l) ∧ wc.drew.cell? ⟨gr, 2, none⟩ = some (.int .i64 r) := ⟨P_0.out.x.cell 0, BR_0.out.three⟩
                have Hnews := Lib.hid (fun W (h : DgW w W g K3 (some ⟨ga, 0, none⟩) n c rs) => h.news)
                generalize wc.drew = wd at *
                refine wpAnyN_take (i := 1) (v := ?_) rfl (by kernel_rfl) (fun _ _ _ h => h) (by rfl) (fun W hW => ?_) hS0 ?_
                rotate_left
                · obtain ⟨z0, z1, z2, z3⟩ := hW
                  go_simp
                  try with_reducible rfl
                try simp only [List.getElem_toArray, List.getElem_cons_zero, List.getElem_cons_succ, Act.put, List.setIfInBounds_toArray, List.set_cons_zero, List.set_cons_succ]
                refine wpAnyN_take (i := 2) (v := ?_) rfl (by kernel_rfl) (fun _ _ _ h => h) (by rfl) (fun W hW => ?_) hS0 ?_
                rotate_left
                · obtain ⟨z0, z1, z2, z3⟩ := hW
                  go_simp
                  try with_reducible rfl
                try simp only [List.getElem_toArray, List.getElem_cons_zero, List.getElem_cons_succ, Act.put, List.setIfInBounds_toArray, List.set_cons_zero, List.set_cons_succ]
                refine wpAnyN_take (i := 4) (v := ?_) rfl (by kernel_rfl) (fun _ _ _ h => h) (by rfl) (fun W hW => ?_) hS0 ?_
                rotate_left
                · obtain ⟨z0, z1, z2, z3⟩ := hW
                  go_simp
                  try with_reducible rfl
                try simp only [List.getElem_toArray, List.getElem_cons_zero, List.getElem_cons_succ, Act.put, List.setIfInBounds_toArray, List.set_cons_zero, List.set_cons_succ]
                clear hS0
                refine wpAnyN_3 (i := 0) (j := 5) (l := 8) rfl rfl rfl (by kernel_rfl) ?_ ?_ ?_
                · intro Kc hK
                  go_simp
                  have P_1 := Lib.hid (P_0.out.alloc (.cells #[] 59))
                  have BR_1 := Lib.hid (BR_0.out.alloc (.cells #[] 59))
                  have OE_1 := Lib.hid (World.ownsRow_made (base := w.heap.size) (e := 59) (size := 3) wd #[] 0 (by have := P_0.out.x.lt; omega) (by unfold maxLen; omega) rfl)
                  have ne0_gr : gr < wd.heap.size := BR_0.out.lt
                  have ne0_ga : ga < wd.heap.size := (P_0.out.q.lt ga rfl).2
                  have e0_low : w.heap.size + 1 < wd.heap.size := P_0.out.x.lt
                  refine hK.out _ _ (fun _ => ⟨P_1.out.x.cell 0, BR_1.out.three⟩) ?_
                  clear hK Kc
                  try simp only [List.getElem_toArray, List.getElem_cons_zero, List.getElem_cons_succ, Act.put, List.setIfInBounds_toArray, List.set_cons_zero, List.set_cons_succ]
                  generalize wd.heap.size = e0 at *
                  generalize wd.alloc (.cells #[] 59) = x1 at *
                  clear P_0 BR_0
                  refine wpAnyN_3 (i := 3) (j := 5) (l := 8) rfl rfl rfl (by kernel_rfl) ?_ ?_ ?_
                  · intro Kc hK
                    refine step_copyL (by rfl) _ _ _ (by rfl) w.heap.size 59 3 32 elem_rule Fac.cells e0 (by rfl) OE_1.out ⟨ga, 0, none⟩ n c rs (by rfl) HLn.out hn0 (Hnews.out _ P_1.out) (fun x _ => fac_len x) (fun x _ => one_fac x) (by omega) (by omega) (by unfold maxLen; omega) P_1.out.e.size ?_
                    intro A3 c3 x2 own3 hg3 at3
                    obtain ⟨o3, cap3, hv3, _, _⟩ := own3.form hn0
                    obtain rfl : A3 = some ⟨o3, 0, none⟩ := by injection hv3
                    have h3_gr : gr < x1.heap.size := BR_1.out.lt
                    have h3_ga : ga < x1.heap.size := (P_1.out.q.lt ga rfl).2
                    have at3 : o3 = e0 ∨ o3 = x1.heap.size := at3.imp (fun h => Option.some.inj h) (fun h => Option.some.inj h)
                    have o3_low : w.heap.size + 1 < o3 := by have h := P_1.out.x.lt; rcases at3 with h3 | h3 <;> omega
                    have o3_gr : gr ≠ o3 := by rcases at3 with h3 | h3 <;> omega
                    have o3_ga : ga ≠ o3 := by rcases at3 with h3 | h3 <;> omega
                    have P_2 := Lib.hid (P_1.out.keepAt hg3 (show w.heap.size + 2 ≤ e0 by omega) (by omega))
                    have BR_2 := Lib.hid (BR_1.out.grown hg3 (by intro e; injection e with e; omega))
                    have OC_2 := Lib.hid own3
                    refine hK.out _ _ (fun _ => ⟨P_2.out.x.cell 0, BR_2.out.three⟩) ?_
                    clear hK Kc own3 hg3 at3 hv3 h3_gr h3_ga
                    try simp only [List.getElem_toArray, List.getElem_cons_zero, List.getElem_cons_succ, Act.put, List.setIfInBounds_toArray, List.set_cons_zero, List.set_cons_succ]
                    clear P_1 BR_1 OE_1
                    refine wpAnyN_2 (i := 5) (j := 8) rfl rfl (by kernel_rfl) ?_ ?_
                    · intro Kc hK
                      go_simp
                      have P_3 := Lib.hid (P_2.out.alloc (.cells #[.string .empty, .int .i64 l, .int .i64 r] 59))
                      have BR_3 := Lib.hid (BR_2.out.alloc (.cells #[.string .empty, .int .i64 l, .int .i64 r] 59))
                      have OC_3 := Lib.hid (OC_2.out.alloc (.cells #[.string .empty, .int .i64 l, .int .i64 r] 59))
                      have B5_3 := Lib.hid (Blk.new x2 59 #[.string .empty, .int .i64 l, .int .i64 r])
                      have ng5_gr : gr < x2.heap.size := BR_2.out.lt
                      have ng5_ga : ga < x2.heap.size := (P_2.out.q.lt ga rfl).2
                      have ng5_o3 : o3 < x2.heap.size := (OC_2.out.lt o3 rfl).2
                      have g5_low : w.heap.size + 1 < x2.heap.size := P_2.out.x.lt
                      refine hK.out _ _ (fun _ => ⟨P_3.out.x.cell 0, BR_3.out.three⟩) ?_
                      clear hK Kc
                      try simp only [List.getElem_toArray, List.getElem_cons_zero, List.getElem_cons_succ, Act.put, List.setIfInBounds_toArray, List.set_cons_zero, List.set_cons_succ]
                      generalize x2.heap.size = g5 at *
                      generalize x2.alloc (.cells #[.string .empty, .int .i64 l, .int .i64 r] 59) = x3 at *
                      clear P_2 BR_2 OC_2
                      refine wpAnyN_2 (i := 6) (j := 8) rfl rfl (by kernel_rfl) ?_ ?_
                      · intro Kc hK
                        refine step_pushL (by rfl) _ _ _ (by rfl) w.heap.size 59 3 32 elem_rule Fac.cells (some ⟨o3, 0, none⟩) n c3 rs (by rfl) OC_3.out g5 ⟨⟨#[]⟩, l, r⟩ #[.string .empty, .int .i64 l, .int .i64 r] 59 (0, 0) (by rfl) B5_3.out rfl rfl (one_fac _) (by omega) (by omega) (by unfold maxLen; omega) P_3.out.e.size ?_
                        intro A6 c6 x4 own6 hg6 at6
                        have P_4 := Lib.hid (P_3.out.keepAt hg6 (show w.heap.size + 2 ≤ o3 by omega) (by omega))
                        have BR_4 := Lib.hid (BR_3.out.grown hg6 (by intro e; have e2 : some gr = some o3 := e; injection e2 with e2; omega))
                        have O6_4 := Lib.hid own6
                        refine hK.out _ _ (fun h => absurd h (by decide)) ?_
                        clear hK Kc own6 hg6 at6
                        try simp only [List.getElem_toArray, List.getElem_cons_zero, List.getElem_cons_succ, Act.put, List.setIfInBounds_toArray, List.set_cons_zero, List.set_cons_succ]
                        clear P_3 BR_3 OC_3 B5_3
                        refine wpAnyN_2 (i := 7) (j := 8) rfl rfl (by kernel_rfl) ?_ ?_
                        · intro Kc hK
                          go_simp
                          refine hK.out _ _ (fun h => absurd h (by decide)) ?_
                          clear hK Kc
                          try simp only [List.getElem_toArray, List.getElem_cons_zero, List.getElem_cons_succ, Act.put, List.setIfInBounds_toArray, List.set_cons_zero, List.set_cons_succ]
                          refine wpAnyN_next (i := 8) rfl (by kernel_rfl) (fun Kc hK => ?_)
                          go_simp
                          have P_6 := Lib.hid (P_4.out.alloc (.cells #[.slice none 0 0] 26))
                          have BR_6 := Lib.hid (BR_4.out.alloc (.cells #[.slice none 0 0] 26))
                          have O6_6 := Lib.hid (O6_4.out.alloc (.cells #[.slice none 0 0] 26))
                          have BL_6 := Lib.hid (Blk.new x4 26 #[.slice none 0 0])
                          have ng8_gr : gr < x4.heap.size := BR_4.out.lt
                          have ng8_ga : ga < x4.heap.size := (P_4.out.q.lt ga rfl).2
                          have g8_low : w.heap.size + 1 < x4.heap.size := P_4.out.x.lt
                          refine hK.out _ _ (fun _ => ⟨P_6.out.x.cell 0, BR_6.out.three⟩) ?_
                          clear hK Kc
                          try simp only [List.getElem_toArray, List.getElem_cons_zero, List.getElem_cons_succ, Act.put, List.setIfInBounds_toArray, List.set_cons_zero, List.set_cons_succ]
                          generalize x4.heap.size = g8 at *
                          generalize x4.alloc (.cells #[.slice none 0 0] 26) = x6 at *
                          clear P_4 BR_4 O6_4
                          refine wpAnyN_next (i := 9) rfl (by kernel_rfl) (fun Kc hK => ?_)
                          have b9c := BL_6.out.cell 0
                          have b9f := BL_6.out.frozen
                          have b9l := BL_6.out.lt
                          go_simp
                          have P_7 := Lib.hid (P_6.out.keepAt (gb_set x6 g8 0 (.slice A6 (n + 1) c6)) (show w.heap.size + 2 ≤ g8 by omega) (by omega))
                          have BL_7 := Lib.hid (BL_6.out.set_ 0 (.slice A6 (n + 1) c6))
                          have O6_7 := Lib.hid (own_kept' (i := 0) O6_6.out BL_6.out (by decide) (.slice A6 (n + 1) c6))
                          refine hK.out _ _ (fun h => absurd h (by decide)) ?_
                          clear hK Kc b9c b9f b9l
                          try simp only [List.getElem_toArray, List.getElem_cons_zero, List.getElem_cons_succ, Act.put, List.setIfInBounds_toArray, List.set_cons_zero, List.set_cons_succ]
                          refine wpAnyN_done (by kernel_rfl) ?_ _
                          go_wp2_with fail
                          go_meet
                          exact ⟨g8, A6, c6, rfl, P_7, BL_7, O6_7, Lib.hid g8_low⟩
                        · intro Kc hK
                          go_simp
                          have P_8 := Lib.hid (P_4.out.alloc (.cells #[.slice none 0 0] 26))
                          have BR_8 := Lib.hid (BR_4.out.alloc (.cells #[.slice none 0 0] 26))
                          have O6_8 := Lib.hid (O6_4.out.alloc (.cells #[.slice none 0 0] 26))
                          have BL_8 := Lib.hid (Blk.new x4 26 #[.slice none 0 0])
                          have ng8_gr : gr < x4.heap.size := BR_4.out.lt
                          have ng8_ga : ga < x4.heap.size := (P_4.out.q.lt ga rfl).2
                          have g8_low : w.heap.size + 1 < x4.heap.size := P_4.out.x.lt
                          refine hK.out _ _ (fun _ => ⟨P_8.out.x.cell 0, BR_8.out.three⟩) ?_
                          clear hK Kc
                          try simp only [List.getElem_toArray, List.getElem_cons_zero, List.getElem_cons_succ, Act.put, List.setIfInBounds_toArray, List.set_cons_zero, List.set_cons_succ]
                          generalize x4.heap.size = g8 at *
                          generalize x4.alloc (.cells #[.slice none 0 0] 26) = x8 at *
                          clear P_4 BR_4 O6_4
                          refine wpAnyN_next (i := 7) rfl (by kernel_rfl) (fun Kc hK => ?_)
                          go_simp
                          refine hK.out _ _ (fun h => absurd h (by decide)) ?_
                          clear hK Kc
                          try simp only [List.getElem_toArray, List.getElem_cons_zero, List.getElem_cons_succ, Act.put, List.setIfInBounds_toArray, List.set_cons_zero, List.set_cons_succ]
                          refine wpAnyN_next (i := 9) rfl (by kernel_rfl) (fun Kc hK => ?_)
                          have b9c := BL_8.out.cell 0
                          have b9f := BL_8.out.frozen
                          have b9l := BL_8.out.lt
                          go_simp
                          have P_10 := Lib.hid (P_8.out.keepAt (gb_set x8 g8 0 (.slice A6 (n + 1) c6)) (show w.heap.size + 2 ≤ g8 by omega) (by omega))
                          have BL_10 := Lib.hid (BL_8.out.set_ 0 (.slice A6 (n + 1) c6))
                          have O6_10 := Lib.hid (own_kept' (i := 0) O6_8.out BL_8.out (by decide) (.slice A6 (n + 1) c6))
                          refine hK.out _ _ (fun h => absurd h (by decide)) ?_
                          clear hK Kc b9c b9f b9l
                          try simp only [List.getElem_toArray, List.getElem_cons_zero, List.getElem_cons_succ, Act.put, List.setIfInBounds_toArray, List.set_cons_zero, List.set_cons_succ]
                          refine wpAnyN_done (by kernel_rfl) ?_ _
                          go_wp2_with fail
                          go_meet
                          exact ⟨g8, A6, c6, rfl, P_10, BL_10, O6_10, Lib.hid g8_low⟩
                      · intro Kc hK
                        go_simp
                        have P_11 := Lib.hid (P_3.out.alloc (.cells #[.slice none 0 0] 26))
                        have BR_11 := Lib.hid (BR_3.out.alloc (.cells #[.slice none 0 0] 26))
                        have OC_11 := Lib.hid (OC_3.out.alloc (.cells #[.slice none 0 0] 26))
                        have B5_11 := Lib.hid (B5_3.out.alloc (.cells #[.slice none 0 0] 26))
                        have BL_11 := Lib.hid (Blk.new x3 26 #[.slice none 0 0])
                        have ng8_gr : gr < x3.heap.size := BR_3.out.lt
                        have ng8_ga : ga < x3.heap.size := (P_3.out.q.lt ga rfl).2
                        have ng8_o3 : o3 < x3.heap.size := (OC_3.out.lt o3 rfl).2
                        have ng8_g5 : g5 < x3.heap.size := B5_3.out.lt
                        have g8_low : w.heap.size + 1 < x3.heap.size := P_3.out.x.lt
                        refine hK.out _ _ (fun _ => ⟨P_11.out.x.cell 0, BR_11.out.three⟩) ?_
                        clear hK Kc
                        try simp only [List.getElem_toArray, List.getElem_cons_zero, List.getElem_cons_succ, Act.put, List.setIfInBounds_toArray, List.set_cons_zero, List.set_cons_succ]
                        generalize x3.heap.size = g8 at *
                        generalize x3.alloc (.cells #[.slice none 0 0] 26) = x11 at *
                        clear P_3 BR_3 OC_3 B5_3
                        refine wpAnyN_next (i := 6) rfl (by kernel_rfl) (fun Kc hK => ?_)
                        refine step_pushL (by rfl) _ _ _ (by rfl) w.heap.size 59 3 32 elem_rule Fac.cells (some ⟨o3, 0, none⟩) n c3 rs (by rfl) OC_11.out g5 ⟨⟨#[]⟩, l, r⟩ #[.string .empty, .int .i64 l, .int .i64 r] 59 (0, 0) (by rfl) B5_11.out rfl rfl (one_fac _) (by omega) (by omega) (by unfold maxLen; omega) P_11.out.e.size ?_
                        intro A6 c6 x12 own6 hg6 at6
                        have P_12 := Lib.hid (P_11.out.keepAt hg6 (show w.heap.size + 2 ≤ o3 by omega) (by omega))
                        have BR_12 := Lib.hid (BR_11.out.grown hg6 (by intro e; have e2 : some gr = some o3 := e; injection e2 with e2; omega))
                        have BL_12 := Lib.hid (BL_11.out.grown hg6 (by intro e; have e2 : some g8 = some o3 := e; injection e2 with e2; omega))
                        have O6_12 := Lib.hid own6
                        refine hK.out _ _ (fun h => absurd h (by decide)) ?_
                        clear hK Kc own6 hg6 at6
                        try simp only [List.getElem_toArray, List.getElem_cons_zero, List.getElem_cons_succ, Act.put, List.setIfInBounds_toArray, List.set_cons_zero, List.set_cons_succ]
                        clear P_11 BR_11 OC_11 B5_11 BL_11
                        refine wpAnyN_next (i := 7) rfl (by kernel_rfl) (fun Kc hK => ?_)
                        go_simp
                        refine hK.out _ _ (fun h => absurd h (by decide)) ?_
                        clear hK Kc
                        try simp only [List.getElem_toArray, List.getElem_cons_zero, List.getElem_cons_succ, Act.put, List.setIfInBounds_toArray, List.set_cons_zero, List.set_cons_succ]
                        refine wpAnyN_next (i := 9) rfl (by kernel_rfl) (fun Kc hK => ?_)
                        have b9c := BL_12.out.cell 0
                        have b9f := BL_12.out.frozen
                        have b9l := BL_12.out.lt
                        go_simp
                        have P_14 := Lib.hid (P_12.out.keepAt (gb_set x12 g8 0 (.slice A6 (n + 1) c6)) (show w.heap.size + 2 ≤ g8 by omega) (by omega))
                        have BL_14 := Lib.hid (BL_12.out.set_ 0 (.slice A6 (n + 1) c6))
                        have O6_14 := Lib.hid (own_kept' (i := 0) O6_12.out BL_12.out (by decide) (.slice A6 (n + 1) c6))
                        refine hK.out _ _ (fun h => absurd h (by decide)) ?_
                        clear hK Kc b9c b9f b9l
                        try simp only [List.getElem_toArray, List.getElem_cons_zero, List.getElem_cons_succ, Act.put, List.setIfInBounds_toArray, List.set_cons_zero, List.set_cons_succ]
                        refine wpAnyN_done (by kernel_rfl) ?_ _
                        go_wp2_with fail
                        go_meet
                        exact ⟨g8, A6, c6, rfl, P_14, BL_14, O6_14, Lib.hid g8_low⟩
                    · intro Kc hK
                      go_simp
                      have P_15 := Lib.hid (P_2.out.alloc (.cells #[.slice none 0 0] 26))
                      have BR_15 := Lib.hid (BR_2.out.alloc (.cells #[.slice none 0 0] 26))
                      have OC_15 := Lib.hid (OC_2.out.alloc (.cells #[.slice none 0 0] 26))
                      have BL_15 := Lib.hid (Blk.new x2 26 #[.slice none 0 0])
                      have ng8_gr : gr < x2.heap.size := BR_2.out.lt
                      have ng8_ga : ga < x2.heap.size := (P_2.out.q.lt ga rfl).2
                      have ng8_o3 : o3 < x2.heap.size := (OC_2.out.lt o3 rfl).2
                      have g8_low : w.heap.size + 1 < x2.heap.size := P_2.out.x.lt
                      refine hK.out _ _ (fun _ => ⟨P_15.out.x.cell 0, BR_15.out.three⟩) ?_
                      clear hK Kc
                      try simp only [List.getElem_toArray, List.getElem_cons_zero, List.getElem_cons_succ, Act.put, List.setIfInBounds_toArray, List.set_cons_zero, List.set_cons_succ]
                      generalize x2.heap.size = g8 at *
                      generalize x2.alloc (.cells #[.slice none 0 0] 26) = x15 at *
                      clear P_2 BR_2 OC_2
                      refine wpAnyN_next (i := 5) rfl (by kernel_rfl) (fun Kc hK => ?_)
                      go_simp
                      have P_16 := Lib.hid (P_15.out.alloc (.cells #[.string .empty, .int .i64 l, .int .i64 r] 59))
                      have BR_16 := Lib.hid (BR_15.out.alloc (.cells #[.string .empty, .int .i64 l, .int .i64 r] 59))
                      have OC_16 := Lib.hid (OC_15.out.alloc (.cells #[.string .empty, .int .i64 l, .int .i64 r] 59))
                      have BL_16 := Lib.hid (BL_15.out.alloc (.cells #[.string .empty, .int .i64 l, .int .i64 r] 59))
                      have B5_16 := Lib.hid (Blk.new x15 59 #[.string .empty, .int .i64 l, .int .i64 r])
                      have ng5_gr : gr < x15.heap.size := BR_15.out.lt
                      have ng5_ga : ga < x15.heap.size := (P_15.out.q.lt ga rfl).2
                      have ng5_o3 : o3 < x15.heap.size := (OC_15.out.lt o3 rfl).2
                      have ng5_g8 : g8 < x15.heap.size := BL_15.out.lt
                      have g5_low : w.heap.size + 1 < x15.heap.size := P_15.out.x.lt
                      refine hK.out _ _ (fun _ => ⟨P_16.out.x.cell 0, BR_16.out.three⟩) ?_
                      clear hK Kc
                      try simp only [List.getElem_toArray, List.getElem_cons_zero, List.getElem_cons_succ, Act.put, List.setIfInBounds_toArray, List.set_cons_zero, List.set_cons_succ]
                      generalize x15.heap.size = g5 at *
                      generalize x15.alloc (.cells #[.string .empty, .int .i64 l, .int .i64 r] 59) = x16 at *
                      clear P_15 BR_15 OC_15 BL_15
                      refine wpAnyN_next (i := 6) rfl (by kernel_rfl) (fun Kc hK => ?_)
                      refine step_pushL (by rfl) _ _ _ (by rfl) w.heap.size 59 3 32 elem_rule Fac.cells (some ⟨o3, 0, none⟩) n c3 rs (by rfl) OC_16.out g5 ⟨⟨#[]⟩, l, r⟩ #[.string .empty, .int .i64 l, .int .i64 r] 59 (0, 0) (by rfl) B5_16.out rfl rfl (one_fac _) (by omega) (by omega) (by unfold maxLen; omega) P_16.out.e.size ?_
                      intro A6 c6 x17 own6 hg6 at6
                      have P_17 := Lib.hid (P_16.out.keepAt hg6 (show w.heap.size + 2 ≤ o3 by omega) (by omega))
                      have BR_17 := Lib.hid (BR_16.out.grown hg6 (by intro e; have e2 : some gr = some o3 := e; injection e2 with e2; omega))
                      have BL_17 := Lib.hid (BL_16.out.grown hg6 (by intro e; have e2 : some g8 = some o3 := e; injection e2 with e2; omega))
                      have O6_17 := Lib.hid own6
                      refine hK.out _ _ (fun h => absurd h (by decide)) ?_
                      clear hK Kc own6 hg6 at6
                      try simp only [List.getElem_toArray, List.getElem_cons_zero, List.getElem_cons_succ, Act.put, List.setIfInBounds_toArray, List.set_cons_zero, List.set_cons_succ]
                      clear P_16 BR_16 OC_16 B5_16 BL_16
                      refine wpAnyN_next (i := 7) rfl (by kernel_rfl) (fun Kc hK => ?_)
                      go_simp
                      refine hK.out _ _ (fun h => absurd h (by decide)) ?_
                      clear hK Kc
                      try simp only [List.getElem_toArray, List.getElem_cons_zero, List.getElem_cons_succ, Act.put, List.setIfInBounds_toArray, List.set_cons_zero, List.set_cons_succ]
                      refine wpAnyN_next (i := 9) rfl (by kernel_rfl) (fun Kc hK => ?_)
                      have b9c := BL_17.out.cell 0
                      have b9f := BL_17.out.frozen
                      have b9l := BL_17.out.lt
                      go_simp
                      have P_19 := Lib.hid (P_17.out.keepAt (gb_set x17 g8 0 (.slice A6 (n + 1) c6)) (show w.heap.size + 2 ≤ g8 by omega) (by omega))
                      have BL_19 := Lib.hid (BL_17.out.set_ 0 (.slice A6 (n + 1) c6))
                      have O6_19 := Lib.hid (own_kept' (i := 0) O6_17.out BL_17.out (by decide) (.slice A6 (n + 1) c6))
                      refine hK.out _ _ (fun h => absurd h (by decide)) ?_
                      clear hK Kc b9c b9f b9l
                      try simp only [List.getElem_toArray, List.getElem_cons_zero, List.getElem_cons_succ, Act.put, List.setIfInBounds_toArray, List.set_cons_zero, List.set_cons_succ]
                      refine wpAnyN_done (by kernel_rfl) ?_ _
                      go_wp2_with fail
                      go_meet
                      exact ⟨g8, A6, c6, rfl, P_19, BL_19, O6_19, Lib.hid g8_low⟩
                  · intro Kc hK
                    go_simp
                    have P_20 := Lib.hid (P_1.out.alloc (.cells #[.string .empty, .int .i64 l, .int .i64 r] 59))
                    have BR_20 := Lib.hid (BR_1.out.alloc (.cells #[.string .empty, .int .i64 l, .int .i64 r] 59))
                    have OE_20 := Lib.hid (OE_1.out.alloc (.cells #[.string .empty, .int .i64 l, .int .i64 r] 59))
                    have B5_20 := Lib.hid (Blk.new x1 59 #[.string .empty, .int .i64 l, .int .i64 r])
                    have ng5_gr : gr < x1.heap.size := BR_1.out.lt
                    have ng5_ga : ga < x1.heap.size := (P_1.out.q.lt ga rfl).2
                    have ng5_e0 : e0 < x1.heap.size := (OE_1.out.lt e0 rfl).2
                    have g5_low : w.heap.size + 1 < x1.heap.size := P_1.out.x.lt
                    refine hK.out _ _ (fun _ => ⟨P_20.out.x.cell 0, BR_20.out.three⟩) ?_
                    clear hK Kc
                    try simp only [List.getElem_toArray, List.getElem_cons_zero, List.getElem_cons_succ, Act.put, List.setIfInBounds_toArray, List.set_cons_zero, List.set_cons_succ]
                    generalize x1.heap.size = g5 at *
                    generalize x1.alloc (.cells #[.string .empty, .int .i64 l, .int .i64 r] 59) = x20 at *
                    clear P_1 BR_1 OE_1
                    refine wpAnyN_2 (i := 3) (j := 8) rfl rfl (by kernel_rfl) ?_ ?_
                    · intro Kc hK
                      refine step_copyL (by rfl) _ _ _ (by rfl) w.heap.size 59 3 32 elem_rule Fac.cells e0 (by rfl) OE_20.out ⟨ga, 0, none⟩ n c rs (by rfl) HLn.out hn0 (Hnews.out _ P_20.out) (fun x _ => fac_len x) (fun x _ => one_fac x) (by omega) (by omega) (by unfold maxLen; omega) P_20.out.e.size ?_
                      intro A3 c3 x21 own3 hg3 at3
                      obtain ⟨o3, cap3, hv3, _, _⟩ := own3.form hn0
                      obtain rfl : A3 = some ⟨o3, 0, none⟩ := by injection hv3
                      have h3_gr : gr < x20.heap.size := BR_20.out.lt
                      have h3_ga : ga < x20.heap.size := (P_20.out.q.lt ga rfl).2
                      have h3_g5 : g5 < x20.heap.size := B5_20.out.lt
                      have at3 : o3 = e0 ∨ o3 = x20.heap.size := at3.imp (fun h => Option.some.inj h) (fun h => Option.some.inj h)
                      have o3_low : w.heap.size + 1 < o3 := by have h := P_20.out.x.lt; rcases at3 with h3 | h3 <;> omega
                      have o3_gr : gr ≠ o3 := by rcases at3 with h3 | h3 <;> omega
                      have o3_ga : ga ≠ o3 := by rcases at3 with h3 | h3 <;> omega
                      have o3_g5 : g5 ≠ o3 := by rcases at3 with h3 | h3 <;> omega
                      have P_21 := Lib.hid (P_20.out.keepAt hg3 (show w.heap.size + 2 ≤ e0 by omega) (by omega))
                      have BR_21 := Lib.hid (BR_20.out.grown hg3 (by intro e; injection e with e; omega))
                      have B5_21 := Lib.hid (B5_20.out.grown hg3 (by intro e; injection e with e; omega))
                      have OC_21 := Lib.hid own3
                      refine hK.out _ _ (fun _ => ⟨P_21.out.x.cell 0, BR_21.out.three⟩) ?_
                      clear hK Kc own3 hg3 at3 hv3 h3_gr h3_ga h3_g5
                      try simp only [List.getElem_toArray, List.getElem_cons_zero, List.getElem_cons_succ, Act.put, List.setIfInBounds_toArray, List.set_cons_zero, List.set_cons_succ]
                      clear P_20 BR_20 OE_20 B5_20
                      refine wpAnyN_2 (i := 6) (j := 8) rfl rfl (by kernel_rfl) ?_ ?_
                      · intro Kc hK
                        refine step_pushL (by rfl) _ _ _ (by rfl) w.heap.size 59 3 32 elem_rule Fac.cells (some ⟨o3, 0, none⟩) n c3 rs (by rfl) OC_21.out g5 ⟨⟨#[]⟩, l, r⟩ #[.string .empty, .int .i64 l, .int .i64 r] 59 (0, 0) (by rfl) B5_21.out rfl rfl (one_fac _) (by omega) (by omega) (by unfold maxLen; omega) P_21.out.e.size ?_
                        intro A6 c6 x22 own6 hg6 at6
                        have P_22 := Lib.hid (P_21.out.keepAt hg6 (show w.heap.size + 2 ≤ o3 by omega) (by omega))
                        have BR_22 := Lib.hid (BR_21.out.grown hg6 (by intro e; have e2 : some gr = some o3 := e; injection e2 with e2; omega))
                        have O6_22 := Lib.hid own6
                        refine hK.out _ _ (fun h => absurd h (by decide)) ?_
                        clear hK Kc own6 hg6 at6
                        try simp only [List.getElem_toArray, List.getElem_cons_zero, List.getElem_cons_succ, Act.put, List.setIfInBounds_toArray, List.set_cons_zero, List.set_cons_succ]
                        clear P_21 BR_21 OC_21 B5_21
                        refine wpAnyN_2 (i := 7) (j := 8) rfl rfl (by kernel_rfl) ?_ ?_
                        · intro Kc hK
                          go_simp
                          refine hK.out _ _ (fun h => absurd h (by decide)) ?_
                          clear hK Kc
                          try simp only [List.getElem_toArray, List.getElem_cons_zero, List.getElem_cons_succ, Act.put, List.setIfInBounds_toArray, List.set_cons_zero, List.set_cons_succ]
                          refine wpAnyN_next (i := 8) rfl (by kernel_rfl) (fun Kc hK => ?_)
                          go_simp
                          have P_24 := Lib.hid (P_22.out.alloc (.cells #[.slice none 0 0] 26))
                          have BR_24 := Lib.hid (BR_22.out.alloc (.cells #[.slice none 0 0] 26))
                          have O6_24 := Lib.hid (O6_22.out.alloc (.cells #[.slice none 0 0] 26))
                          have BL_24 := Lib.hid (Blk.new x22 26 #[.slice none 0 0])
                          have ng8_gr : gr < x22.heap.size := BR_22.out.lt
                          have ng8_ga : ga < x22.heap.size := (P_22.out.q.lt ga rfl).2
                          have g8_low : w.heap.size + 1 < x22.heap.size := P_22.out.x.lt
                          refine hK.out _ _ (fun _ => ⟨P_24.out.x.cell 0, BR_24.out.three⟩) ?_
                          clear hK Kc
                          try simp only [List.getElem_toArray, List.getElem_cons_zero, List.getElem_cons_succ, Act.put, List.setIfInBounds_toArray, List.set_cons_zero, List.set_cons_succ]
                          generalize x22.heap.size = g8 at *
                          generalize x22.alloc (.cells #[.slice none 0 0] 26) = x24 at *
                          clear P_22 BR_22 O6_22
                          refine wpAnyN_next (i := 9) rfl (by kernel_rfl) (fun Kc hK => ?_)
                          have b9c := BL_24.out.cell 0
                          have b9f := BL_24.out.frozen
                          have b9l := BL_24.out.lt
                          go_simp
                          have P_25 := Lib.hid (P_24.out.keepAt (gb_set x24 g8 0 (.slice A6 (n + 1) c6)) (show w.heap.size + 2 ≤ g8 by omega) (by omega))
                          have BL_25 := Lib.hid (BL_24.out.set_ 0 (.slice A6 (n + 1) c6))
                          have O6_25 := Lib.hid (own_kept' (i := 0) O6_24.out BL_24.out (by decide) (.slice A6 (n + 1) c6))
                          refine hK.out _ _ (fun h => absurd h (by decide)) ?_
                          clear hK Kc b9c b9f b9l
                          try simp only [List.getElem_toArray, List.getElem_cons_zero, List.getElem_cons_succ, Act.put, List.setIfInBounds_toArray, List.set_cons_zero, List.set_cons_succ]
                          refine wpAnyN_done (by kernel_rfl) ?_ _
                          go_wp2_with fail
                          go_meet
                          exact ⟨g8, A6, c6, rfl, P_25, BL_25, O6_25, Lib.hid g8_low⟩
                        · intro Kc hK
                          go_simp
                          have P_26 := Lib.hid (P_22.out.alloc (.cells #[.slice none 0 0] 26))
                          have BR_26 := Lib.hid (BR_22.out.alloc (.cells #[.slice none 0 0] 26))
                          have O6_26 := Lib.hid (O6_22.out.alloc (.cells #[.slice none 0 0] 26))
                          have BL_26 := Lib.hid (Blk.new x22 26 #[.slice none 0 0])
                          have ng8_gr : gr < x22.heap.size := BR_22.out.lt
                          have ng8_ga : ga < x22.heap.size := (P_22.out.q.lt ga rfl).2
                          have g8_low : w.heap.size + 1 < x22.heap.size := P_22.out.x.lt
                          refine hK.out _ _ (fun _ => ⟨P_26.out.x.cell 0, BR_26.out.three⟩) ?_
                          clear hK Kc
                          try simp only [List.getElem_toArray, List.getElem_cons_zero, List.getElem_cons_succ, Act.put, List.setIfInBounds_toArray, List.set_cons_zero, List.set_cons_succ]
                          generalize x22.heap.size = g8 at *
                          generalize x22.alloc (.cells #[.slice none 0 0] 26) = x26 at *
                          clear P_22 BR_22 O6_22
                          refine wpAnyN_next (i := 7) rfl (by kernel_rfl) (fun Kc hK => ?_)
                          go_simp
                          refine hK.out _ _ (fun h => absurd h (by decide)) ?_
                          clear hK Kc
                          try simp only [List.getElem_toArray, List.getElem_cons_zero, List.getElem_cons_succ, Act.put, List.setIfInBounds_toArray, List.set_cons_zero, List.set_cons_succ]
                          refine wpAnyN_next (i := 9) rfl (by kernel_rfl) (fun Kc hK => ?_)
                          have b9c := BL_26.out.cell 0
                          have b9f := BL_26.out.frozen
                          have b9l := BL_26.out.lt
                          go_simp
                          have P_28 := Lib.hid (P_26.out.keepAt (gb_set x26 g8 0 (.slice A6 (n + 1) c6)) (show w.heap.size + 2 ≤ g8 by omega) (by omega))
                          have BL_28 := Lib.hid (BL_26.out.set_ 0 (.slice A6 (n + 1) c6))
                          have O6_28 := Lib.hid (own_kept' (i := 0) O6_26.out BL_26.out (by decide) (.slice A6 (n + 1) c6))
                          refine hK.out _ _ (fun h => absurd h (by decide)) ?_
                          clear hK Kc b9c b9f b9l
                          try simp only [List.getElem_toArray, List.getElem_cons_zero, List.getElem_cons_succ, Act.put, List.setIfInBounds_toArray, List.set_cons_zero, List.set_cons_succ]
                          refine wpAnyN_done (by kernel_rfl) ?_ _
                          go_wp2_with fail
                          go_meet
                          exact ⟨g8, A6, c6, rfl, P_28, BL_28, O6_28, Lib.hid g8_low⟩
                      · intro Kc hK
                        go_simp
                        have P_29 := Lib.hid (P_21.out.alloc (.cells #[.slice none 0 0] 26))
                        have BR_29 := Lib.hid (BR_21.out.alloc (.cells #[.slice none 0 0] 26))
                        have OC_29 := Lib.hid (OC_21.out.alloc (.cells #[.slice none 0 0] 26))
                        have B5_29 := Lib.hid (B5_21.out.alloc (.cells #[.slice none 0 0] 26))
                        have BL_29 := Lib.hid (Blk.new x21 26 #[.slice none 0 0])
                        have ng8_gr : gr < x21.heap.size := BR_21.out.lt
                        have ng8_ga : ga < x21.heap.size := (P_21.out.q.lt ga rfl).2
                        have ng8_o3 : o3 < x21.heap.size := (OC_21.out.lt o3 rfl).2
                        have ng8_g5 : g5 < x21.heap.size := B5_21.out.lt
                        have g8_low : w.heap.size + 1 < x21.heap.size := P_21.out.x.lt
                        refine hK.out _ _ (fun _ => ⟨P_29.out.x.cell 0, BR_29.out.three⟩) ?_
                        clear hK Kc
                        try simp only [List.getElem_toArray, List.getElem_cons_zero, List.getElem_cons_succ, Act.put, List.setIfInBounds_toArray, List.set_cons_zero, List.set_cons_succ]
                        generalize x21.heap.size = g8 at *
                        generalize x21.alloc (.cells #[.slice none 0 0] 26) = x29 at *
                        clear P_21 BR_21 OC_21 B5_21
                        refine wpAnyN_next (i := 6) rfl (by kernel_rfl) (fun Kc hK => ?_)
                        refine step_pushL (by rfl) _ _ _ (by rfl) w.heap.size 59 3 32 elem_rule Fac.cells (some ⟨o3, 0, none⟩) n c3 rs (by rfl) OC_29.out g5 ⟨⟨#[]⟩, l, r⟩ #[.string .empty, .int .i64 l, .int .i64 r] 59 (0, 0) (by rfl) B5_29.out rfl rfl (one_fac _) (by omega) (by omega) (by unfold maxLen; omega) P_29.out.e.size ?_
                        intro A6 c6 x30 own6 hg6 at6
                        have P_30 := Lib.hid (P_29.out.keepAt hg6 (show w.heap.size + 2 ≤ o3 by omega) (by omega))
                        have BR_30 := Lib.hid (BR_29.out.grown hg6 (by intro e; have e2 : some gr = some o3 := e; injection e2 with e2; omega))
                        have BL_30 := Lib.hid (BL_29.out.grown hg6 (by intro e; have e2 : some g8 = some o3 := e; injection e2 with e2; omega))
                        have O6_30 := Lib.hid own6
                        refine hK.out _ _ (fun h => absurd h (by decide)) ?_
                        clear hK Kc own6 hg6 at6
                        try simp only [List.getElem_toArray, List.getElem_cons_zero, List.getElem_cons_succ, Act.put, List.setIfInBounds_toArray, List.set_cons_zero, List.set_cons_succ]
                        clear P_29 BR_29 OC_29 B5_29 BL_29
                        refine wpAnyN_next (i := 7) rfl (by kernel_rfl) (fun Kc hK => ?_)
                        go_simp
                        refine hK.out _ _ (fun h => absurd h (by decide)) ?_
                        clear hK Kc
                        try simp only [List.getElem_toArray, List.getElem_cons_zero, List.getElem_cons_succ, Act.put, List.setIfInBounds_toArray, List.set_cons_zero, List.set_cons_succ]
                        refine wpAnyN_next (i := 9) rfl (by kernel_rfl) (fun Kc hK => ?_)
                        have b9c := BL_30.out.cell 0
                        have b9f := BL_30.out.frozen
                        have b9l := BL_30.out.lt
                        go_simp
                        have P_32 := Lib.hid (P_30.out.keepAt (gb_set x30 g8 0 (.slice A6 (n + 1) c6)) (show w.heap.size + 2 ≤ g8 by omega) (by omega))
                        have BL_32 := Lib.hid (BL_30.out.set_ 0 (.slice A6 (n + 1) c6))
                        have O6_32 := Lib.hid (own_kept' (i := 0) O6_30.out BL_30.out (by decide) (.slice A6 (n + 1) c6))
                        refine hK.out _ _ (fun h => absurd h (by decide)) ?_
                        clear hK Kc b9c b9f b9l
                        try simp only [List.getElem_toArray, List.getElem_cons_zero, List.getElem_cons_succ, Act.put, List.setIfInBounds_toArray, List.set_cons_zero, List.set_cons_succ]
                        refine wpAnyN_done (by kernel_rfl) ?_ _
                        go_wp2_with fail
                        go_meet
                        exact ⟨g8, A6, c6, rfl, P_32, BL_32, O6_32, Lib.hid g8_low⟩
                    · intro Kc hK
                      go_simp
                      have P_33 := Lib.hid (P_20.out.alloc (.cells #[.slice none 0 0] 26))
                      have BR_33 := Lib.hid (BR_20.out.alloc (.cells #[.slice none 0 0] 26))
                      have OE_33 := Lib.hid (OE_20.out.alloc (.cells #[.slice none 0 0] 26))
                      have B5_33 := Lib.hid (B5_20.out.alloc (.cells #[.slice none 0 0] 26))
                      have BL_33 := Lib.hid (Blk.new x20 26 #[.slice none 0 0])
                      have ng8_gr : gr < x20.heap.size := BR_20.out.lt
                      have ng8_ga : ga < x20.heap.size := (P_20.out.q.lt ga rfl).2
                      have ng8_e0 : e0 < x20.heap.size := (OE_20.out.lt e0 rfl).2
                      have ng8_g5 : g5 < x20.heap.size := B5_20.out.lt
                      have g8_low : w.heap.size + 1 < x20.heap.size := P_20.out.x.lt
                      refine hK.out _ _ (fun _ => ⟨P_33.out.x.cell 0, BR_33.out.three⟩) ?_
                      clear hK Kc
                      try simp only [List.getElem_toArray, List.getElem_cons_zero, List.getElem_cons_succ, Act.put, List.setIfInBounds_toArray, List.set_cons_zero, List.set_cons_succ]
                      generalize x20.heap.size = g8 at *
                      generalize x20.alloc (.cells #[.slice none 0 0] 26) = x33 at *
                      clear P_20 BR_20 OE_20 B5_20
                      refine wpAnyN_next (i := 3) rfl (by kernel_rfl) (fun Kc hK => ?_)
                      refine step_copyL (by rfl) _ _ _ (by rfl) w.heap.size 59 3 32 elem_rule Fac.cells e0 (by rfl) OE_33.out ⟨ga, 0, none⟩ n c rs (by rfl) HLn.out hn0 (Hnews.out _ P_33.out) (fun x _ => fac_len x) (fun x _ => one_fac x) (by omega) (by omega) (by unfold maxLen; omega) P_33.out.e.size ?_
                      intro A3 c3 x34 own3 hg3 at3
                      obtain ⟨o3, cap3, hv3, _, _⟩ := own3.form hn0
                      obtain rfl : A3 = some ⟨o3, 0, none⟩ := by injection hv3
                      have h3_gr : gr < x33.heap.size := BR_33.out.lt
                      have h3_ga : ga < x33.heap.size := (P_33.out.q.lt ga rfl).2
                      have h3_g5 : g5 < x33.heap.size := B5_33.out.lt
                      have h3_g8 : g8 < x33.heap.size := BL_33.out.lt
                      have at3 : o3 = e0 ∨ o3 = x33.heap.size := at3.imp (fun h => Option.some.inj h) (fun h => Option.some.inj h)
                      have o3_low : w.heap.size + 1 < o3 := by have h := P_33.out.x.lt; rcases at3 with h3 | h3 <;> omega
                      have o3_gr : gr ≠ o3 := by rcases at3 with h3 | h3 <;> omega
                      have o3_ga : ga ≠ o3 := by rcases at3 with h3 | h3 <;> omega
                      have o3_g5 : g5 ≠ o3 := by rcases at3 with h3 | h3 <;> omega
                      have o3_g8 : g8 ≠ o3 := by rcases at3 with h3 | h3 <;> omega
                      have P_34 := Lib.hid (P_33.out.keepAt hg3 (show w.heap.size + 2 ≤ e0 by omega) (by omega))
                      have BR_34 := Lib.hid (BR_33.out.grown hg3 (by intro e; injection e with e; omega))
                      have B5_34 := Lib.hid (B5_33.out.grown hg3 (by intro e; injection e with e; omega))
                      have BL_34 := Lib.hid (BL_33.out.grown hg3 (by intro e; injection e with e; omega))
                      have OC_34 := Lib.hid own3
                      refine hK.out _ _ (fun _ => ⟨P_34.out.x.cell 0, BR_34.out.three⟩) ?_
                      clear hK Kc own3 hg3 at3 hv3 h3_gr h3_ga h3_g5 h3_g8
                      try simp only [List.getElem_toArray, List.getElem_cons_zero, List.getElem_cons_succ, Act.put, List.setIfInBounds_toArray, List.set_cons_zero, List.set_cons_succ]
                      clear P_33 BR_33 OE_33 B5_33 BL_33
                      refine wpAnyN_next (i := 6) rfl (by kernel_rfl) (fun Kc hK => ?_)
                      refine step_pushL (by rfl) _ _ _ (by rfl) w.heap.size 59 3 32 elem_rule Fac.cells (some ⟨o3, 0, none⟩) n c3 rs (by rfl) OC_34.out g5 ⟨⟨#[]⟩, l, r⟩ #[.string .empty, .int .i64 l, .int .i64 r] 59 (0, 0) (by rfl) B5_34.out rfl rfl (one_fac _) (by omega) (by omega) (by unfold maxLen; omega) P_34.out.e.size ?_
                      intro A6 c6 x35 own6 hg6 at6
                      have P_35 := Lib.hid (P_34.out.keepAt hg6 (show w.heap.size + 2 ≤ o3 by omega) (by omega))
                      have BR_35 := Lib.hid (BR_34.out.grown hg6 (by intro e; have e2 : some gr = some o3 := e; injection e2 with e2; omega))
                      have BL_35 := Lib.hid (BL_34.out.grown hg6 (by intro e; have e2 : some g8 = some o3 := e; injection e2 with e2; omega))
                      have O6_35 := Lib.hid own6
                      refine hK.out _ _ (fun h => absurd h (by decide)) ?_
                      clear hK Kc own6 hg6 at6
                      try simp only [List.getElem_toArray, List.getElem_cons_zero, List.getElem_cons_succ, Act.put, List.setIfInBounds_toArray, List.set_cons_zero, List.set_cons_succ]
                      clear P_34 BR_34 OC_34 B5_34 BL_34
                      refine wpAnyN_next (i := 7) rfl (by kernel_rfl) (fun Kc hK => ?_)
                      go_simp
                      refine hK.out _ _ (fun h => absurd h (by decide)) ?_
                      clear hK Kc
                      try simp only [List.getElem_toArray, List.getElem_cons_zero, List.getElem_cons_succ, Act.put, List.setIfInBounds_toArray, List.set_cons_zero, List.set_cons_succ]
                      refine wpAnyN_next (i := 9) rfl (by kernel_rfl) (fun Kc hK => ?_)
                      have b9c := BL_35.out.cell 0
                      have b9f := BL_35.out.frozen
                      have b9l := BL_35.out.lt
                      go_simp
                      have P_37 := Lib.hid (P_35.out.keepAt (gb_set x35 g8 0 (.slice A6 (n + 1) c6)) (show w.heap.size + 2 ≤ g8 by omega) (by omega))
                      have BL_37 := Lib.hid (BL_35.out.set_ 0 (.slice A6 (n + 1) c6))
                      have O6_37 := Lib.hid (own_kept' (i := 0) O6_35.out BL_35.out (by decide) (.slice A6 (n + 1) c6))
                      refine hK.out _ _ (fun h => absurd h (by decide)) ?_
                      clear hK Kc b9c b9f b9l
                      try simp only [List.getElem_toArray, List.getElem_cons_zero, List.getElem_cons_succ, Act.put, List.setIfInBounds_toArray, List.set_cons_zero, List.set_cons_succ]
                      refine wpAnyN_done (by kernel_rfl) ?_ _
                      go_wp2_with fail
                      go_meet
                      exact ⟨g8, A6, c6, rfl, P_37, BL_37, O6_37, Lib.hid g8_low⟩
                  · intro Kc hK
                    go_simp
                    have P_38 := Lib.hid (P_1.out.alloc (.cells #[.slice none 0 0] 26))
                    have BR_38 := Lib.hid (BR_1.out.alloc (.cells #[.slice none 0 0] 26))
                    have OE_38 := Lib.hid (OE_1.out.alloc (.cells #[.slice none 0 0] 26))
                    have BL_38 := Lib.hid (Blk.new x1 26 #[.slice none 0 0])
                    have ng8_gr : gr < x1.heap.size := BR_1.out.lt
                    have ng8_ga : ga < x1.heap.size := (P_1.out.q.lt ga rfl).2
                    have ng8_e0 : e0 < x1.heap.size := (OE_1.out.lt e0 rfl).2
                    have g8_low : w.heap.size + 1 < x1.heap.size := P_1.out.x.lt
                    refine hK.out _ _ (fun _ => ⟨P_38.out.x.cell 0, BR_38.out.three⟩) ?_
                    clear hK Kc
                    try simp only [List.getElem_toArray, List.getElem_cons_zero, List.getElem_cons_succ, Act.put, List.setIfInBounds_toArray, List.set_cons_zero, List.set_cons_succ]
                    generalize x1.heap.size = g8 at *
                    generalize x1.alloc (.cells #[.slice none 0 0] 26) = x38 at *
                    clear P_1 BR_1 OE_1
                    refine wpAnyN_2 (i := 3) (j := 5) rfl rfl (by kernel_rfl) ?_ ?_
                    · intro Kc hK
                      refine step_copyL (by rfl) _ _ _ (by rfl) w.heap.size 59 3 32 elem_rule Fac.cells e0 (by rfl) OE_38.out ⟨ga, 0, none⟩ n c rs (by rfl) HLn.out hn0 (Hnews.out _ P_38.out) (fun x _ => fac_len x) (fun x _ => one_fac x) (by omega) (by omega) (by unfold maxLen; omega) P_38.out.e.size ?_
                      intro A3 c3 x39 own3 hg3 at3
                      obtain ⟨o3, cap3, hv3, _, _⟩ := own3.form hn0
                      obtain rfl : A3 = some ⟨o3, 0, none⟩ := by injection hv3
                      have h3_gr : gr < x38.heap.size := BR_38.out.lt
                      have h3_ga : ga < x38.heap.size := (P_38.out.q.lt ga rfl).2
                      have h3_g8 : g8 < x38.heap.size := BL_38.out.lt
                      have at3 : o3 = e0 ∨ o3 = x38.heap.size := at3.imp (fun h => Option.some.inj h) (fun h => Option.some.inj h)
                      have o3_low : w.heap.size + 1 < o3 := by have h := P_38.out.x.lt; rcases at3 with h3 | h3 <;> omega
                      have o3_gr : gr ≠ o3 := by rcases at3 with h3 | h3 <;> omega
                      have o3_ga : ga ≠ o3 := by rcases at3 with h3 | h3 <;> omega
                      have o3_g8 : g8 ≠ o3 := by rcases at3 with h3 | h3 <;> omega
                      have P_39 := Lib.hid (P_38.out.keepAt hg3 (show w.heap.size + 2 ≤ e0 by omega) (by omega))
                      have BR_39 := Lib.hid (BR_38.out.grown hg3 (by intro e; injection e with e; omega))
                      have BL_39 := Lib.hid (BL_38.out.grown hg3 (by intro e; injection e with e; omega))
                      have OC_39 := Lib.hid own3
                      refine hK.out _ _ (fun _ => ⟨P_39.out.x.cell 0, BR_39.out.three⟩) ?_
                      clear hK Kc own3 hg3 at3 hv3 h3_gr h3_ga h3_g8
                      try simp only [List.getElem_toArray, List.getElem_cons_zero, List.getElem_cons_succ, Act.put, List.setIfInBounds_toArray, List.set_cons_zero, List.set_cons_succ]
                      clear P_38 BR_38 OE_38 BL_38
                      refine wpAnyN_next (i := 5) rfl (by kernel_rfl) (fun Kc hK => ?_)
                      go_simp
                      have P_40 := Lib.hid (P_39.out.alloc (.cells #[.string .empty, .int .i64 l, .int .i64 r] 59))
                      have BR_40 := Lib.hid (BR_39.out.alloc (.cells #[.string .empty, .int .i64 l, .int .i64 r] 59))
                      have OC_40 := Lib.hid (OC_39.out.alloc (.cells #[.string .empty, .int .i64 l, .int .i64 r] 59))
                      have BL_40 := Lib.hid (BL_39.out.alloc (.cells #[.string .empty, .int .i64 l, .int .i64 r] 59))
                      have B5_40 := Lib.hid (Blk.new x39 59 #[.string .empty, .int .i64 l, .int .i64 r])
                      have ng5_gr : gr < x39.heap.size := BR_39.out.lt
                      have ng5_ga : ga < x39.heap.size := (P_39.out.q.lt ga rfl).2
                      have ng5_o3 : o3 < x39.heap.size := (OC_39.out.lt o3 rfl).2
                      have ng5_g8 : g8 < x39.heap.size := BL_39.out.lt
                      have g5_low : w.heap.size + 1 < x39.heap.size := P_39.out.x.lt
                      refine hK.out _ _ (fun _ => ⟨P_40.out.x.cell 0, BR_40.out.three⟩) ?_
                      clear hK Kc
                      try simp only [List.getElem_toArray, List.getElem_cons_zero, List.getElem_cons_succ, Act.put, List.setIfInBounds_toArray, List.set_cons_zero, List.set_cons_succ]
                      generalize x39.heap.size = g5 at *
                      generalize x39.alloc (.cells #[.string .empty, .int .i64 l, .int .i64 r] 59) = x40 at *
                      clear P_39 BR_39 OC_39 BL_39
                      refine wpAnyN_next (i := 6) rfl (by kernel_rfl) (fun Kc hK => ?_)
                      refine step_pushL (by rfl) _ _ _ (by rfl) w.heap.size 59 3 32 elem_rule Fac.cells (some ⟨o3, 0, none⟩) n c3 rs (by rfl) OC_40.out g5 ⟨⟨#[]⟩, l, r⟩ #[.string .empty, .int .i64 l, .int .i64 r] 59 (0, 0) (by rfl) B5_40.out rfl rfl (one_fac _) (by omega) (by omega) (by unfold maxLen; omega) P_40.out.e.size ?_
                      intro A6 c6 x41 own6 hg6 at6
                      have P_41 := Lib.hid (P_40.out.keepAt hg6 (show w.heap.size + 2 ≤ o3 by omega) (by omega))
                      have BR_41 := Lib.hid (BR_40.out.grown hg6 (by intro e; have e2 : some gr = some o3 := e; injection e2 with e2; omega))
                      have BL_41 := Lib.hid (BL_40.out.grown hg6 (by intro e; have e2 : some g8 = some o3 := e; injection e2 with e2; omega))
                      have O6_41 := Lib.hid own6
                      refine hK.out _ _ (fun h => absurd h (by decide)) ?_
                      clear hK Kc own6 hg6 at6
                      try simp only [List.getElem_toArray, List.getElem_cons_zero, List.getElem_cons_succ, Act.put, List.setIfInBounds_toArray, List.set_cons_zero, List.set_cons_succ]
                      clear P_40 BR_40 OC_40 B5_40 BL_40
                      refine wpAnyN_next (i := 7) rfl (by kernel_rfl) (fun Kc hK => ?_)
                      go_simp
                      refine hK.out _ _ (fun h => absurd h (by decide)) ?_
                      clear hK Kc
                      try simp only [List.getElem_toArray, List.getElem_cons_zero, List.getElem_cons_succ, Act.put, List.setIfInBounds_toArray, List.set_cons_zero, List.set_cons_succ]
                      refine wpAnyN_next (i := 9) rfl (by kernel_rfl) (fun Kc hK => ?_)
                      have b9c := BL_41.out.cell 0
                      have b9f := BL_41.out.frozen
                      have b9l := BL_41.out.lt
                      go_simp
                      have P_43 := Lib.hid (P_41.out.keepAt (gb_set x41 g8 0 (.slice A6 (n + 1) c6)) (show w.heap.size + 2 ≤ g8 by omega) (by omega))
                      have BL_43 := Lib.hid (BL_41.out.set_ 0 (.slice A6 (n + 1) c6))
                      have O6_43 := Lib.hid (own_kept' (i := 0) O6_41.out BL_41.out (by decide) (.slice A6 (n + 1) c6))
                      refine hK.out _ _ (fun h => absurd h (by decide)) ?_
                      clear hK Kc b9c b9f b9l
                      try simp only [List.getElem_toArray, List.getElem_cons_zero, List.getElem_cons_succ, Act.put, List.setIfInBounds_toArray, List.set_cons_zero, List.set_cons_succ]
                      refine wpAnyN_done (by kernel_rfl) ?_ _
                      go_wp2_with fail
                      go_meet
                      exact ⟨g8, A6, c6, rfl, P_43, BL_43, O6_43, Lib.hid g8_low⟩
                    · intro Kc hK
                      go_simp
                      have P_44 := Lib.hid (P_38.out.alloc (.cells #[.string .empty, .int .i64 l, .int .i64 r] 59))
                      have BR_44 := Lib.hid (BR_38.out.alloc (.cells #[.string .empty, .int .i64 l, .int .i64 r] 59))
                      have OE_44 := Lib.hid (OE_38.out.alloc (.cells #[.string .empty, .int .i64 l, .int .i64 r] 59))
                      have BL_44 := Lib.hid (BL_38.out.alloc (.cells #[.string .empty, .int .i64 l, .int .i64 r] 59))
                      have B5_44 := Lib.hid (Blk.new x38 59 #[.string .empty, .int .i64 l, .int .i64 r])
                      have ng5_gr : gr < x38.heap.size := BR_38.out.lt
                      have ng5_ga : ga < x38.heap.size := (P_38.out.q.lt ga rfl).2
                      have ng5_e0 : e0 < x38.heap.size := (OE_38.out.lt e0 rfl).2
                      have ng5_g8 : g8 < x38.heap.size := BL_38.out.lt
                      have g5_low : w.heap.size + 1 < x38.heap.size := P_38.out.x.lt
                      refine hK.out _ _ (fun _ => ⟨P_44.out.x.cell 0, BR_44.out.three⟩) ?_
                      clear hK Kc
                      try simp only [List.getElem_toArray, List.getElem_cons_zero, List.getElem_cons_succ, Act.put, List.setIfInBounds_toArray, List.set_cons_zero, List.set_cons_succ]
                      generalize x38.heap.size = g5 at *
                      generalize x38.alloc (.cells #[.string .empty, .int .i64 l, .int .i64 r] 59) = x44 at *
                      clear P_38 BR_38 OE_38 BL_38
                      refine wpAnyN_next (i := 3) rfl (by kernel_rfl) (fun Kc hK => ?_)
                      refine step_copyL (by rfl) _ _ _ (by rfl) w.heap.size 59 3 32 elem_rule Fac.cells e0 (by rfl) OE_44.out ⟨ga, 0, none⟩ n c rs (by rfl) HLn.out hn0 (Hnews.out _ P_44.out) (fun x _ => fac_len x) (fun x _ => one_fac x) (by omega) (by omega) (by unfold maxLen; omega) P_44.out.e.size ?_
                      intro A3 c3 x45 own3 hg3 at3
                      obtain ⟨o3, cap3, hv3, _, _⟩ := own3.form hn0
                      obtain rfl : A3 = some ⟨o3, 0, none⟩ := by injection hv3
                      have h3_gr : gr < x44.heap.size := BR_44.out.lt
                      have h3_ga : ga < x44.heap.size := (P_44.out.q.lt ga rfl).2
                      have h3_g5 : g5 < x44.heap.size := B5_44.out.lt
                      have h3_g8 : g8 < x44.heap.size := BL_44.out.lt
                      have at3 : o3 = e0 ∨ o3 = x44.heap.size := at3.imp (fun h => Option.some.inj h) (fun h => Option.some.inj h)
                      have o3_low : w.heap.size + 1 < o3 := by have h := P_44.out.x.lt; rcases at3 with h3 | h3 <;> omega
                      have o3_gr : gr ≠ o3 := by rcases at3 with h3 | h3 <;> omega
                      have o3_ga : ga ≠ o3 := by rcases at3 with h3 | h3 <;> omega
                      have o3_g5 : g5 ≠ o3 := by rcases at3 with h3 | h3 <;> omega
                      have o3_g8 : g8 ≠ o3 := by rcases at3 with h3 | h3 <;> omega
                      have P_45 := Lib.hid (P_44.out.keepAt hg3 (show w.heap.size + 2 ≤ e0 by omega) (by omega))
                      have BR_45 := Lib.hid (BR_44.out.grown hg3 (by intro e; injection e with e; omega))
                      have B5_45 := Lib.hid (B5_44.out.grown hg3 (by intro e; injection e with e; omega))
                      have BL_45 := Lib.hid (BL_44.out.grown hg3 (by intro e; injection e with e; omega))
                      have OC_45 := Lib.hid own3
                      refine hK.out _ _ (fun _ => ⟨P_45.out.x.cell 0, BR_45.out.three⟩) ?_
                      clear hK Kc own3 hg3 at3 hv3 h3_gr h3_ga h3_g5 h3_g8
                      try simp only [List.getElem_toArray, List.getElem_cons_zero, List.getElem_cons_succ, Act.put, List.setIfInBounds_toArray, List.set_cons_zero, List.set_cons_succ]
                      clear P_44 BR_44 OE_44 B5_44 BL_44
                      refine wpAnyN_next (i := 6) rfl (by kernel_rfl) (fun Kc hK => ?_)
                      refine step_pushL (by rfl) _ _ _ (by rfl) w.heap.size 59 3 32 elem_rule Fac.cells (some ⟨o3, 0, none⟩) n c3 rs (by rfl) OC_45.out g5 ⟨⟨#[]⟩, l, r⟩ #[.string .empty, .int .i64 l, .int .i64 r] 59 (0, 0) (by rfl) B5_45.out rfl rfl (one_fac _) (by omega) (by omega) (by unfold maxLen; omega) P_45.out.e.size ?_
                      intro A6 c6 x46 own6 hg6 at6
                      have P_46 := Lib.hid (P_45.out.keepAt hg6 (show w.heap.size + 2 ≤ o3 by omega) (by omega))
                      have BR_46 := Lib.hid (BR_45.out.grown hg6 (by intro e; have e2 : some gr = some o3 := e; injection e2 with e2; omega))
                      have BL_46 := Lib.hid (BL_45.out.grown hg6 (by intro e; have e2 : some g8 = some o3 := e; injection e2 with e2; omega))
                      have O6_46 := Lib.hid own6
                      refine hK.out _ _ (fun h => absurd h (by decide)) ?_
                      clear hK Kc own6 hg6 at6
                      try simp only [List.getElem_toArray, List.getElem_cons_zero, List.getElem_cons_succ, Act.put, List.setIfInBounds_toArray, List.set_cons_zero, List.set_cons_succ]
                      clear P_45 BR_45 OC_45 B5_45 BL_45
                      refine wpAnyN_next (i := 7) rfl (by kernel_rfl) (fun Kc hK => ?_)
                      go_simp
                      refine hK.out _ _ (fun h => absurd h (by decide)) ?_
                      clear hK Kc
                      try simp only [List.getElem_toArray, List.getElem_cons_zero, List.getElem_cons_succ, Act.put, List.setIfInBounds_toArray, List.set_cons_zero, List.set_cons_succ]
                      refine wpAnyN_next (i := 9) rfl (by kernel_rfl) (fun Kc hK => ?_)
                      have b9c := BL_46.out.cell 0
                      have b9f := BL_46.out.frozen
                      have b9l := BL_46.out.lt
                      go_simp
                      have P_48 := Lib.hid (P_46.out.keepAt (gb_set x46 g8 0 (.slice A6 (n + 1) c6)) (show w.heap.size + 2 ≤ g8 by omega) (by omega))
                      have BL_48 := Lib.hid (BL_46.out.set_ 0 (.slice A6 (n + 1) c6))
                      have O6_48 := Lib.hid (own_kept' (i := 0) O6_46.out BL_46.out (by decide) (.slice A6 (n + 1) c6))
                      refine hK.out _ _ (fun h => absurd h (by decide)) ?_
                      clear hK Kc b9c b9f b9l
                      try simp only [List.getElem_toArray, List.getElem_cons_zero, List.getElem_cons_succ, Act.put, List.setIfInBounds_toArray, List.set_cons_zero, List.set_cons_succ]
                      refine wpAnyN_done (by kernel_rfl) ?_ _
                      go_wp2_with fail
                      go_meet
                      exact ⟨g8, A6, c6, rfl, P_48, BL_48, O6_48, Lib.hid g8_low⟩
                · intro Kc hK
                  go_simp
                  have P_49 := Lib.hid (P_0.out.alloc (.cells #[.string .empty, .int .i64 l, .int .i64 r] 59))
                  have BR_49 := Lib.hid (BR_0.out.alloc (.cells #[.string .empty, .int .i64 l, .int .i64 r] 59))
                  have B5_49 := Lib.hid (Blk.new wd 59 #[.string .empty, .int .i64 l, .int .i64 r])
                  have ng5_gr : gr < wd.heap.size := BR_0.out.lt
                  have ng5_ga : ga < wd.heap.size := (P_0.out.q.lt ga rfl).2
                  have g5_low : w.heap.size + 1 < wd.heap.size := P_0.out.x.lt
                  refine hK.out _ _ (fun _ => ⟨P_49.out.x.cell 0, BR_49.out.three⟩) ?_
                  clear hK Kc
                  try simp only [List.getElem_toArray, List.getElem_cons_zero, List.getElem_cons_succ, Act.put, List.setIfInBounds_toArray, List.set_cons_zero, List.set_cons_succ]
                  generalize wd.heap.size = g5 at *
                  generalize wd.alloc (.cells #[.string .empty, .int .i64 l, .int .i64 r] 59) = x49 at *
                  clear P_0 BR_0
                  refine wpAnyN_2 (i := 0) (j := 8) rfl rfl (by kernel_rfl) ?_ ?_
                  · intro Kc hK
                    go_simp
                    have P_50 := Lib.hid (P_49.out.alloc (.cells #[] 59))
                    have BR_50 := Lib.hid (BR_49.out.alloc (.cells #[] 59))
                    have B5_50 := Lib.hid (B5_49.out.alloc (.cells #[] 59))
                    have OE_50 := Lib.hid (World.ownsRow_made (base := w.heap.size) (e := 59) (size := 3) x49 #[] 0 (by have := P_49.out.x.lt; omega) (by unfold maxLen; omega) rfl)
                    have ne0_gr : gr < x49.heap.size := BR_49.out.lt
                    have ne0_ga : ga < x49.heap.size := (P_49.out.q.lt ga rfl).2
                    have ne0_g5 : g5 < x49.heap.size := B5_49.out.lt
                    have e0_low : w.heap.size + 1 < x49.heap.size := P_49.out.x.lt
                    refine hK.out _ _ (fun _ => ⟨P_50.out.x.cell 0, BR_50.out.three⟩) ?_
                    clear hK Kc
                    try simp only [List.getElem_toArray, List.getElem_cons_zero, List.getElem_cons_succ, Act.put, List.setIfInBounds_toArray, List.set_cons_zero, List.set_cons_succ]
                    generalize x49.heap.size = e0 at *
                    generalize x49.alloc (.cells #[] 59) = x50 at *
                    clear P_49 BR_49 B5_49
                    refine wpAnyN_2 (i := 3) (j := 8) rfl rfl (by kernel_rfl) ?_ ?_
                    · intro Kc hK
                      refine step_copyL (by rfl) _ _ _ (by rfl) w.heap.size 59 3 32 elem_rule Fac.cells e0 (by rfl) OE_50.out ⟨ga, 0, none⟩ n c rs (by rfl) HLn.out hn0 (Hnews.out _ P_50.out) (fun x _ => fac_len x) (fun x _ => one_fac x) (by omega) (by omega) (by unfold maxLen; omega) P_50.out.e.size ?_
                      intro A3 c3 x51 own3 hg3 at3
                      obtain ⟨o3, cap3, hv3, _, _⟩ := own3.form hn0
                      obtain rfl : A3 = some ⟨o3, 0, none⟩ := by injection hv3
                      have h3_gr : gr < x50.heap.size := BR_50.out.lt
                      have h3_ga : ga < x50.heap.size := (P_50.out.q.lt ga rfl).2
                      have h3_g5 : g5 < x50.heap.size := B5_50.out.lt
                      have at3 : o3 = e0 ∨ o3 = x50.heap.size := at3.imp (fun h => Option.some.inj h) (fun h => Option.some.inj h)
                      have o3_low : w.heap.size + 1 < o3 := by have h := P_50.out.x.lt; rcases at3 with h3 | h3 <;> omega
                      have o3_gr : gr ≠ o3 := by rcases at3 with h3 | h3 <;> omega
                      have o3_ga : ga ≠ o3 := by rcases at3 with h3 | h3 <;> omega
                      have o3_g5 : g5 ≠ o3 := by rcases at3 with h3 | h3 <;> omega
                      have P_51 := Lib.hid (P_50.out.keepAt hg3 (show w.heap.size + 2 ≤ e0 by omega) (by omega))
                      have BR_51 := Lib.hid (BR_50.out.grown hg3 (by intro e; injection e with e; omega))
                      have B5_51 := Lib.hid (B5_50.out.grown hg3 (by intro e; injection e with e; omega))
                      have OC_51 := Lib.hid own3
                      refine hK.out _ _ (fun _ => ⟨P_51.out.x.cell 0, BR_51.out.three⟩) ?_
                      clear hK Kc own3 hg3 at3 hv3 h3_gr h3_ga h3_g5
                      try simp only [List.getElem_toArray, List.getElem_cons_zero, List.getElem_cons_succ, Act.put, List.setIfInBounds_toArray, List.set_cons_zero, List.set_cons_succ]
                      clear P_50 BR_50 OE_50 B5_50
                      refine wpAnyN_2 (i := 6) (j := 8) rfl rfl (by kernel_rfl) ?_ ?_
                      · intro Kc hK
                        refine step_pushL (by rfl) _ _ _ (by rfl) w.heap.size 59 3 32 elem_rule Fac.cells (some ⟨o3, 0, none⟩) n c3 rs (by rfl) OC_51.out g5 ⟨⟨#[]⟩, l, r⟩ #[.string .empty, .int .i64 l, .int .i64 r] 59 (0, 0) (by rfl) B5_51.out rfl rfl (one_fac _) (by omega) (by omega) (by unfold maxLen; omega) P_51.out.e.size ?_
                        intro A6 c6 x52 own6 hg6 at6
                        have P_52 := Lib.hid (P_51.out.keepAt hg6 (show w.heap.size + 2 ≤ o3 by omega) (by omega))
                        have BR_52 := Lib.hid (BR_51.out.grown hg6 (by intro e; have e2 : some gr = some o3 := e; injection e2 with e2; omega))
                        have O6_52 := Lib.hid own6
                        refine hK.out _ _ (fun h => absurd h (by decide)) ?_
                        clear hK Kc own6 hg6 at6
                        try simp only [List.getElem_toArray, List.getElem_cons_zero, List.getElem_cons_succ, Act.put, List.setIfInBounds_toArray, List.set_cons_zero, List.set_cons_succ]
                        clear P_51 BR_51 OC_51 B5_51
                        refine wpAnyN_2 (i := 7) (j := 8) rfl rfl (by kernel_rfl) ?_ ?_
                        · intro Kc hK
                          go_simp
                          refine hK.out _ _ (fun h => absurd h (by decide)) ?_
                          clear hK Kc
                          try simp only [List.getElem_toArray, List.getElem_cons_zero, List.getElem_cons_succ, Act.put, List.setIfInBounds_toArray, List.set_cons_zero, List.set_cons_succ]
                          refine wpAnyN_next (i := 8) rfl (by kernel_rfl) (fun Kc hK => ?_)
                          go_simp
                          have P_54 := Lib.hid (P_52.out.alloc (.cells #[.slice none 0 0] 26))
                          have BR_54 := Lib.hid (BR_52.out.alloc (.cells #[.slice none 0 0] 26))
                          have O6_54 := Lib.hid (O6_52.out.alloc (.cells #[.slice none 0 0] 26))
                          have BL_54 := Lib.hid (Blk.new x52 26 #[.slice none 0 0])
                          have ng8_gr : gr < x52.heap.size := BR_52.out.lt
                          have ng8_ga : ga < x52.heap.size := (P_52.out.q.lt ga rfl).2
                          have g8_low : w.heap.size + 1 < x52.heap.size := P_52.out.x.lt
                          refine hK.out _ _ (fun _ => ⟨P_54.out.x.cell 0, BR_54.out.three⟩) ?_
                          clear hK Kc
                          try simp only [List.getElem_toArray, List.getElem_cons_zero, List.getElem_cons_succ, Act.put, List.setIfInBounds_toArray, List.set_cons_zero, List.set_cons_succ]
                          generalize x52.heap.size = g8 at *
                          generalize x52.alloc (.cells #[.slice none 0 0] 26) = x54 at *
                          clear P_52 BR_52 O6_52
                          refine wpAnyN_next (i := 9) rfl (by kernel_rfl) (fun Kc hK => ?_)
                          have b9c := BL_54.out.cell 0
                          have b9f := BL_54.out.frozen
                          have b9l := BL_54.out.lt
                          go_simp
                          have P_55 := Lib.hid (P_54.out.keepAt (gb_set x54 g8 0 (.slice A6 (n + 1) c6)) (show w.heap.size + 2 ≤ g8 by omega) (by omega))
                          have BL_55 := Lib.hid (BL_54.out.set_ 0 (.slice A6 (n + 1) c6))
                          have O6_55 := Lib.hid (own_kept' (i := 0) O6_54.out BL_54.out (by decide) (.slice A6 (n + 1) c6))
                          refine hK.out _ _ (fun h => absurd h (by decide)) ?_
                          clear hK Kc b9c b9f b9l
                          try simp only [List.getElem_toArray, List.getElem_cons_zero, List.getElem_cons_succ, Act.put, List.setIfInBounds_toArray, List.set_cons_zero, List.set_cons_succ]
                          refine wpAnyN_done (by kernel_rfl) ?_ _
                          go_wp2_with fail
                          go_meet
                          exact ⟨g8, A6, c6, rfl, P_55, BL_55, O6_55, Lib.hid g8_low⟩
                        · intro Kc hK
                          go_simp
                          have P_56 := Lib.hid (P_52.out.alloc (.cells #[.slice none 0 0] 26))
                          have BR_56 := Lib.hid (BR_52.out.alloc (.cells #[.slice none 0 0] 26))
                          have O6_56 := Lib.hid (O6_52.out.alloc (.cells #[.slice none 0 0] 26))
                          have BL_56 := Lib.hid (Blk.new x52 26 #[.slice none 0 0])
                          have ng8_gr : gr < x52.heap.size := BR_52.out.lt
                          have ng8_ga : ga < x52.heap.size := (P_52.out.q.lt ga rfl).2
                          have g8_low : w.heap.size + 1 < x52.heap.size := P_52.out.x.lt
                          refine hK.out _ _ (fun _ => ⟨P_56.out.x.cell 0, BR_56.out.three⟩) ?_
                          clear hK Kc
                          try simp only [List.getElem_toArray, List.getElem_cons_zero, List.getElem_cons_succ, Act.put, List.setIfInBounds_toArray, List.set_cons_zero, List.set_cons_succ]
                          generalize x52.heap.size = g8 at *
                          generalize x52.alloc (.cells #[.slice none 0 0] 26) = x56 at *
                          clear P_52 BR_52 O6_52
                          refine wpAnyN_next (i := 7) rfl (by kernel_rfl) (fun Kc hK => ?_)
                          go_simp
                          refine hK.out _ _ (fun h => absurd h (by decide)) ?_
                          clear hK Kc
                          try simp only [List.getElem_toArray, List.getElem_cons_zero, List.getElem_cons_succ, Act.put, List.setIfInBounds_toArray, List.set_cons_zero, List.set_cons_succ]
                          refine wpAnyN_next (i := 9) rfl (by kernel_rfl) (fun Kc hK => ?_)
                          have b9c := BL_56.out.cell 0
                          have b9f := BL_56.out.frozen
                          have b9l := BL_56.out.lt
                          go_simp
                          have P_58 := Lib.hid (P_56.out.keepAt (gb_set x56 g8 0 (.slice A6 (n + 1) c6)) (show w.heap.size + 2 ≤ g8 by omega) (by omega))
                          have BL_58 := Lib.hid (BL_56.out.set_ 0 (.slice A6 (n + 1) c6))
                          have O6_58 := Lib.hid (own_kept' (i := 0) O6_56.out BL_56.out (by decide) (.slice A6 (n + 1) c6))
                          refine hK.out _ _ (fun h => absurd h (by decide)) ?_
                          clear hK Kc b9c b9f b9l
                          try simp only [List.getElem_toArray, List.getElem_cons_zero, List.getElem_cons_succ, Act.put, List.setIfInBounds_toArray, List.set_cons_zero, List.set_cons_succ]
                          refine wpAnyN_done (by kernel_rfl) ?_ _
                          go_wp2_with fail
                          go_meet
                          exact ⟨g8, A6, c6, rfl, P_58, BL_58, O6_58, Lib.hid g8_low⟩
                      · intro Kc hK
                        go_simp
                        have P_59 := Lib.hid (P_51.out.alloc (.cells #[.slice none 0 0] 26))
                        have BR_59 := Lib.hid (BR_51.out.alloc (.cells #[.slice none 0 0] 26))
                        have OC_59 := Lib.hid (OC_51.out.alloc (.cells #[.slice none 0 0] 26))
                        have B5_59 := Lib.hid (B5_51.out.alloc (.cells #[.slice none 0 0] 26))
                        have BL_59 := Lib.hid (Blk.new x51 26 #[.slice none 0 0])
                        have ng8_gr : gr < x51.heap.size := BR_51.out.lt
                        have ng8_ga : ga < x51.heap.size := (P_51.out.q.lt ga rfl).2
                        have ng8_o3 : o3 < x51.heap.size := (OC_51.out.lt o3 rfl).2
                        have ng8_g5 : g5 < x51.heap.size := B5_51.out.lt
                        have g8_low : w.heap.size + 1 < x51.heap.size := P_51.out.x.lt
                        refine hK.out _ _ (fun _ => ⟨P_59.out.x.cell 0, BR_59.out.three⟩) ?_
                        clear hK Kc
                        try simp only [List.getElem_toArray, List.getElem_cons_zero, List.getElem_cons_succ, Act.put, List.setIfInBounds_toArray, List.set_cons_zero, List.set_cons_succ]
                        generalize x51.heap.size = g8 at *
                        generalize x51.alloc (.cells #[.slice none 0 0] 26) = x59 at *
                        clear P_51 BR_51 OC_51 B5_51
                        refine wpAnyN_next (i := 6) rfl (by kernel_rfl) (fun Kc hK => ?_)
                        refine step_pushL (by rfl) _ _ _ (by rfl) w.heap.size 59 3 32 elem_rule Fac.cells (some ⟨o3, 0, none⟩) n c3 rs (by rfl) OC_59.out g5 ⟨⟨#[]⟩, l, r⟩ #[.string .empty, .int .i64 l, .int .i64 r] 59 (0, 0) (by rfl) B5_59.out rfl rfl (one_fac _) (by omega) (by omega) (by unfold maxLen; omega) P_59.out.e.size ?_
                        intro A6 c6 x60 own6 hg6 at6
                        have P_60 := Lib.hid (P_59.out.keepAt hg6 (show w.heap.size + 2 ≤ o3 by omega) (by omega))
                        have BR_60 := Lib.hid (BR_59.out.grown hg6 (by intro e; have e2 : some gr = some o3 := e; injection e2 with e2; omega))
                        have BL_60 := Lib.hid (BL_59.out.grown hg6 (by intro e; have e2 : some g8 = some o3 := e; injection e2 with e2; omega))
                        have O6_60 := Lib.hid own6
                        refine hK.out _ _ (fun h => absurd h (by decide)) ?_
                        clear hK Kc own6 hg6 at6
                        try simp only [List.getElem_toArray, List.getElem_cons_zero, List.getElem_cons_succ, Act.put, List.setIfInBounds_toArray, List.set_cons_zero, List.set_cons_succ]
                        clear P_59 BR_59 OC_59 B5_59 BL_59
                        refine wpAnyN_next (i := 7) rfl (by kernel_rfl) (fun Kc hK => ?_)
                        go_simp
                        refine hK.out _ _ (fun h => absurd h (by decide)) ?_
                        clear hK Kc
                        try simp only [List.getElem_toArray, List.getElem_cons_zero, List.getElem_cons_succ, Act.put, List.setIfInBounds_toArray, List.set_cons_zero, List.set_cons_succ]
                        refine wpAnyN_next (i := 9) rfl (by kernel_rfl) (fun Kc hK => ?_)
                        have b9c := BL_60.out.cell 0
                        have b9f := BL_60.out.frozen
                        have b9l := BL_60.out.lt
                        go_simp
                        have P_62 := Lib.hid (P_60.out.keepAt (gb_set x60 g8 0 (.slice A6 (n + 1) c6)) (show w.heap.size + 2 ≤ g8 by omega) (by omega))
                        have BL_62 := Lib.hid (BL_60.out.set_ 0 (.slice A6 (n + 1) c6))
                        have O6_62 := Lib.hid (own_kept' (i := 0) O6_60.out BL_60.out (by decide) (.slice A6 (n + 1) c6))
                        refine hK.out _ _ (fun h => absurd h (by decide)) ?_
                        clear hK Kc b9c b9f b9l
                        try simp only [List.getElem_toArray, List.getElem_cons_zero, List.getElem_cons_succ, Act.put, List.setIfInBounds_toArray, List.set_cons_zero, List.set_cons_succ]
                        refine wpAnyN_done (by kernel_rfl) ?_ _
                        go_wp2_with fail
                        go_meet
                        exact ⟨g8, A6, c6, rfl, P_62, BL_62, O6_62, Lib.hid g8_low⟩
                    · intro Kc hK
                      go_simp
                      have P_63 := Lib.hid (P_50.out.alloc (.cells #[.slice none 0 0] 26))
                      have BR_63 := Lib.hid (BR_50.out.alloc (.cells #[.slice none 0 0] 26))
                      have OE_63 := Lib.hid (OE_50.out.alloc (.cells #[.slice none 0 0] 26))
                      have B5_63 := Lib.hid (B5_50.out.alloc (.cells #[.slice none 0 0] 26))
                      have BL_63 := Lib.hid (Blk.new x50 26 #[.slice none 0 0])
                      have ng8_gr : gr < x50.heap.size := BR_50.out.lt
                      have ng8_ga : ga < x50.heap.size := (P_50.out.q.lt ga rfl).2
                      have ng8_e0 : e0 < x50.heap.size := (OE_50.out.lt e0 rfl).2
                      have ng8_g5 : g5 < x50.heap.size := B5_50.out.lt
                      have g8_low : w.heap.size + 1 < x50.heap.size := P_50.out.x.lt
                      refine hK.out _ _ (fun _ => ⟨P_63.out.x.cell 0, BR_63.out.three⟩) ?_
                      clear hK Kc
                      try simp only [List.getElem_toArray, List.getElem_cons_zero, List.getElem_cons_succ, Act.put, List.setIfInBounds_toArray, List.set_cons_zero, List.set_cons_succ]
                      generalize x50.heap.size = g8 at *
                      generalize x50.alloc (.cells #[.slice none 0 0] 26) = x63 at *
                      clear P_50 BR_50 OE_50 B5_50
                      refine wpAnyN_next (i := 3) rfl (by kernel_rfl) (fun Kc hK => ?_)
                      refine step_copyL (by rfl) _ _ _ (by rfl) w.heap.size 59 3 32 elem_rule Fac.cells e0 (by rfl) OE_63.out ⟨ga, 0, none⟩ n c rs (by rfl) HLn.out hn0 (Hnews.out _ P_63.out) (fun x _ => fac_len x) (fun x _ => one_fac x) (by omega) (by omega) (by unfold maxLen; omega) P_63.out.e.size ?_
                      intro A3 c3 x64 own3 hg3 at3
                      obtain ⟨o3, cap3, hv3, _, _⟩ := own3.form hn0
                      obtain rfl : A3 = some ⟨o3, 0, none⟩ := by injection hv3
                      have h3_gr : gr < x63.heap.size := BR_63.out.lt
                      have h3_ga : ga < x63.heap.size := (P_63.out.q.lt ga rfl).2
                      have h3_g5 : g5 < x63.heap.size := B5_63.out.lt
                      have h3_g8 : g8 < x63.heap.size := BL_63.out.lt
                      have at3 : o3 = e0 ∨ o3 = x63.heap.size := at3.imp (fun h => Option.some.inj h) (fun h => Option.some.inj h)
                      have o3_low : w.heap.size + 1 < o3 := by have h := P_63.out.x.lt; rcases at3 with h3 | h3 <;> omega
                      have o3_gr : gr ≠ o3 := by rcases at3 with h3 | h3 <;> omega
                      have o3_ga : ga ≠ o3 := by rcases at3 with h3 | h3 <;> omega
                      have o3_g5 : g5 ≠ o3 := by rcases at3 with h3 | h3 <;> omega
                      have o3_g8 : g8 ≠ o3 := by rcases at3 with h3 | h3 <;> omega
                      have P_64 := Lib.hid (P_63.out.keepAt hg3 (show w.heap.size + 2 ≤ e0 by omega) (by omega))
                      have BR_64 := Lib.hid (BR_63.out.grown hg3 (by intro e; injection e with e; omega))
                      have B5_64 := Lib.hid (B5_63.out.grown hg3 (by intro e; injection e with e; omega))
                      have BL_64 := Lib.hid (BL_63.out.grown hg3 (by intro e; injection e with e; omega))
                      have OC_64 := Lib.hid own3
                      refine hK.out _ _ (fun _ => ⟨P_64.out.x.cell 0, BR_64.out.three⟩) ?_
                      clear hK Kc own3 hg3 at3 hv3 h3_gr h3_ga h3_g5 h3_g8
                      try simp only [List.getElem_toArray, List.getElem_cons_zero, List.getElem_cons_succ, Act.put, List.setIfInBounds_toArray, List.set_cons_zero, List.set_cons_succ]
                      clear P_63 BR_63 OE_63 B5_63 BL_63
                      refine wpAnyN_next (i := 6) rfl (by kernel_rfl) (fun Kc hK => ?_)
                      refine step_pushL (by rfl) _ _ _ (by rfl) w.heap.size 59 3 32 elem_rule Fac.cells (some ⟨o3, 0, none⟩) n c3 rs (by rfl) OC_64.out g5 ⟨⟨#[]⟩, l, r⟩ #[.string .empty, .int .i64 l, .int .i64 r] 59 (0, 0) (by rfl) B5_64.out rfl rfl (one_fac _) (by omega) (by omega) (by unfold maxLen; omega) P_64.out.e.size ?_
                      intro A6 c6 x65 own6 hg6 at6
                      have P_65 := Lib.hid (P_64.out.keepAt hg6 (show w.heap.size + 2 ≤ o3 by omega) (by omega))
                      have BR_65 := Lib.hid (BR_64.out.grown hg6 (by intro e; have e2 : some gr = some o3 := e; injection e2 with e2; omega))
                      have BL_65 := Lib.hid (BL_64.out.grown hg6 (by intro e; have e2 : some g8 = some o3 := e; injection e2 with e2; omega))
                      have O6_65 := Lib.hid own6
                      refine hK.out _ _ (fun h => absurd h (by decide)) ?_
                      clear hK Kc own6 hg6 at6
                      try simp only [List.getElem_toArray, List.getElem_cons_zero, List.getElem_cons_succ, Act.put, List.setIfInBounds_toArray, List.set_cons_zero, List.set_cons_succ]
                      clear P_64 BR_64 OC_64 B5_64 BL_64
                      refine wpAnyN_next (i := 7) rfl (by kernel_rfl) (fun Kc hK => ?_)
                      go_simp
                      refine hK.out _ _ (fun h => absurd h (by decide)) ?_
                      clear hK Kc
                      try simp only [List.getElem_toArray, List.getElem_cons_zero, List.getElem_cons_succ, Act.put, List.setIfInBounds_toArray, List.set_cons_zero, List.set_cons_succ]
                      refine wpAnyN_next (i := 9) rfl (by kernel_rfl) (fun Kc hK => ?_)
                      have b9c := BL_65.out.cell 0
                      have b9f := BL_65.out.frozen
                      have b9l := BL_65.out.lt
                      go_simp
                      have P_67 := Lib.hid (P_65.out.keepAt (gb_set x65 g8 0 (.slice A6 (n + 1) c6)) (show w.heap.size + 2 ≤ g8 by omega) (by omega))
                      have BL_67 := Lib.hid (BL_65.out.set_ 0 (.slice A6 (n + 1) c6))
                      have O6_67 := Lib.hid (own_kept' (i := 0) O6_65.out BL_65.out (by decide) (.slice A6 (n + 1) c6))
                      refine hK.out _ _ (fun h => absurd h (by decide)) ?_
                      clear hK Kc b9c b9f b9l
                      try simp only [List.getElem_toArray, List.getElem_cons_zero, List.getElem_cons_succ, Act.put, List.setIfInBounds_toArray, List.set_cons_zero, List.set_cons_succ]
                      refine wpAnyN_done (by kernel_rfl) ?_ _
                      go_wp2_with fail
                      go_meet
                      exact ⟨g8, A6, c6, rfl, P_67, BL_67, O6_67, Lib.hid g8_low⟩
                  · intro Kc hK
                    go_simp
                    have P_68 := Lib.hid (P_49.out.alloc (.cells #[.slice none 0 0] 26))
                    have BR_68 := Lib.hid (BR_49.out.alloc (.cells #[.slice none 0 0] 26))
                    have B5_68 := Lib.hid (B5_49.out.alloc (.cells #[.slice none 0 0] 26))
                    have BL_68 := Lib.hid (Blk.new x49 26 #[.slice none 0 0])
                    have ng8_gr : gr < x49.heap.size := BR_49.out.lt
                    have ng8_ga : ga < x49.heap.size := (P_49.out.q.lt ga rfl).2
                    have ng8_g5 : g5 < x49.heap.size := B5_49.out.lt
                    have g8_low : w.heap.size + 1 < x49.heap.size := P_49.out.x.lt
                    refine hK.out _ _ (fun _ => ⟨P_68.out.x.cell 0, BR_68.out.three⟩) ?_
                    clear hK Kc
                    try simp only [List.getElem_toArray, List.getElem_cons_zero, List.getElem_cons_succ, Act.put, List.setIfInBounds_toArray, List.set_cons_zero, List.set_cons_succ]
                    generalize x49.heap.size = g8 at *
                    generalize x49.alloc (.cells #[.slice none 0 0] 26) = x68 at *
                    clear P_49 BR_49 B5_49
                    refine wpAnyN_next (i := 0) rfl (by kernel_rfl) (fun Kc hK => ?_)
                    go_simp
                    have P_69 := Lib.hid (P_68.out.alloc (.cells #[] 59))
                    have BR_69 := Lib.hid (BR_68.out.alloc (.cells #[] 59))
                    have B5_69 := Lib.hid (B5_68.out.alloc (.cells #[] 59))
                    have BL_69 := Lib.hid (BL_68.out.alloc (.cells #[] 59))
                    have OE_69 := Lib.hid (World.ownsRow_made (base := w.heap.size) (e := 59) (size := 3) x68 #[] 0 (by have := P_68.out.x.lt; omega) (by unfold maxLen; omega) rfl)
                    have ne0_gr : gr < x68.heap.size := BR_68.out.lt
                    have ne0_ga : ga < x68.heap.size := (P_68.out.q.lt ga rfl).2
                    have ne0_g5 : g5 < x68.heap.size := B5_68.out.lt
                    have ne0_g8 : g8 < x68.heap.size := BL_68.out.lt
                    have e0_low : w.heap.size + 1 < x68.heap.size := P_68.out.x.lt
                    refine hK.out _ _ (fun _ => ⟨P_69.out.x.cell 0, BR_69.out.three⟩) ?_
                    clear hK Kc
                    try simp only [List.getElem_toArray, List.getElem_cons_zero, List.getElem_cons_succ, Act.put, List.setIfInBounds_toArray, List.set_cons_zero, List.set_cons_succ]
                    generalize x68.heap.size = e0 at *
                    generalize x68.alloc (.cells #[] 59) = x69 at *
                    clear P_68 BR_68 B5_68 BL_68
                    refine wpAnyN_next (i := 3) rfl (by kernel_rfl) (fun Kc hK => ?_)
                    refine step_copyL (by rfl) _ _ _ (by rfl) w.heap.size 59 3 32 elem_rule Fac.cells e0 (by rfl) OE_69.out ⟨ga, 0, none⟩ n c rs (by rfl) HLn.out hn0 (Hnews.out _ P_69.out) (fun x _ => fac_len x) (fun x _ => one_fac x) (by omega) (by omega) (by unfold maxLen; omega) P_69.out.e.size ?_
                    intro A3 c3 x70 own3 hg3 at3
                    obtain ⟨o3, cap3, hv3, _, _⟩ := own3.form hn0
                    obtain rfl : A3 = some ⟨o3, 0, none⟩ := by injection hv3
                    have h3_gr : gr < x69.heap.size := BR_69.out.lt
                    have h3_ga : ga < x69.heap.size := (P_69.out.q.lt ga rfl).2
                    have h3_g5 : g5 < x69.heap.size := B5_69.out.lt
                    have h3_g8 : g8 < x69.heap.size := BL_69.out.lt
                    have at3 : o3 = e0 ∨ o3 = x69.heap.size := at3.imp (fun h => Option.some.inj h) (fun h => Option.some.inj h)
                    have o3_low : w.heap.size + 1 < o3 := by have h := P_69.out.x.lt; rcases at3 with h3 | h3 <;> omega
                    have o3_gr : gr ≠ o3 := by rcases at3 with h3 | h3 <;> omega
                    have o3_ga : ga ≠ o3 := by rcases at3 with h3 | h3 <;> omega
                    have o3_g5 : g5 ≠ o3 := by rcases at3 with h3 | h3 <;> omega
                    have o3_g8 : g8 ≠ o3 := by rcases at3 with h3 | h3 <;> omega
                    have P_70 := Lib.hid (P_69.out.keepAt hg3 (show w.heap.size + 2 ≤ e0 by omega) (by omega))
                    have BR_70 := Lib.hid (BR_69.out.grown hg3 (by intro e; injection e with e; omega))
                    have B5_70 := Lib.hid (B5_69.out.grown hg3 (by intro e; injection e with e; omega))
                    have BL_70 := Lib.hid (BL_69.out.grown hg3 (by intro e; injection e with e; omega))
                    have OC_70 := Lib.hid own3
                    refine hK.out _ _ (fun _ => ⟨P_70.out.x.cell 0, BR_70.out.three⟩) ?_
                    clear hK Kc own3 hg3 at3 hv3 h3_gr h3_ga h3_g5 h3_g8
                    try simp only [List.getElem_toArray, List.getElem_cons_zero, List.getElem_cons_succ, Act.put, List.setIfInBounds_toArray, List.set_cons_zero, List.set_cons_succ]
                    clear P_69 BR_69 OE_69 B5_69 BL_69
                    refine wpAnyN_next (i := 6) rfl (by kernel_rfl) (fun Kc hK => ?_)
                    refine step_pushL (by rfl) _ _ _ (by rfl) w.heap.size 59 3 32 elem_rule Fac.cells (some ⟨o3, 0, none⟩) n c3 rs (by rfl) OC_70.out g5 ⟨⟨#[]⟩, l, r⟩ #[.string .empty, .int .i64 l, .int .i64 r] 59 (0, 0) (by rfl) B5_70.out rfl rfl (one_fac _) (by omega) (by omega) (by unfold maxLen; omega) P_70.out.e.size ?_
                    intro A6 c6 x71 own6 hg6 at6
                    have P_71 := Lib.hid (P_70.out.keepAt hg6 (show w.heap.size + 2 ≤ o3 by omega) (by omega))
                    have BR_71 := Lib.hid (BR_70.out.grown hg6 (by intro e; have e2 : some gr = some o3 := e; injection e2 with e2; omega))
                    have BL_71 := Lib.hid (BL_70.out.grown hg6 (by intro e; have e2 : some g8 = some o3 := e; injection e2 with e2; omega))
                    have O6_71 := Lib.hid own6
                    refine hK.out _ _ (fun h => absurd h (by decide)) ?_
                    clear hK Kc own6 hg6 at6
                    try simp only [List.getElem_toArray, List.getElem_cons_zero, List.getElem_cons_succ, Act.put, List.setIfInBounds_toArray, List.set_cons_zero, List.set_cons_succ]
                    clear P_70 BR_70 OC_70 B5_70 BL_70
                    refine wpAnyN_next (i := 7) rfl (by kernel_rfl) (fun Kc hK => ?_)
                    go_simp
                    refine hK.out _ _ (fun h => absurd h (by decide)) ?_
                    clear hK Kc
                    try simp only [List.getElem_toArray, List.getElem_cons_zero, List.getElem_cons_succ, Act.put, List.setIfInBounds_toArray, List.set_cons_zero, List.set_cons_succ]
                    refine wpAnyN_next (i := 9) rfl (by kernel_rfl) (fun Kc hK => ?_)
                    have b9c := BL_71.out.cell 0
                    have b9f := BL_71.out.frozen
                    have b9l := BL_71.out.lt
                    go_simp
                    have P_73 := Lib.hid (P_71.out.keepAt (gb_set x71 g8 0 (.slice A6 (n + 1) c6)) (show w.heap.size + 2 ≤ g8 by omega) (by omega))
                    have BL_73 := Lib.hid (BL_71.out.set_ 0 (.slice A6 (n + 1) c6))
                    have O6_73 := Lib.hid (own_kept' (i := 0) O6_71.out BL_71.out (by decide) (.slice A6 (n + 1) c6))
                    refine hK.out _ _ (fun h => absurd h (by decide)) ?_
                    clear hK Kc b9c b9f b9l
                    try simp only [List.getElem_toArray, List.getElem_cons_zero, List.getElem_cons_succ, Act.put, List.setIfInBounds_toArray, List.set_cons_zero, List.set_cons_succ]
                    refine wpAnyN_done (by kernel_rfl) ?_ _
                    go_wp2_with fail
                    go_meet
                    exact ⟨g8, A6, c6, rfl, P_73, BL_73, O6_73, Lib.hid g8_low⟩
                · intro Kc hK
                  go_simp
                  have P_74 := Lib.hid (P_0.out.alloc (.cells #[.slice none 0 0] 26))
                  have BR_74 := Lib.hid (BR_0.out.alloc (.cells #[.slice none 0 0] 26))
                  have BL_74 := Lib.hid (Blk.new wd 26 #[.slice none 0 0])
                  have ng8_gr : gr < wd.heap.size := BR_0.out.lt
                  have ng8_ga : ga < wd.heap.size := (P_0.out.q.lt ga rfl).2
                  have g8_low : w.heap.size + 1 < wd.heap.size := P_0.out.x.lt
                  refine hK.out _ _ (fun _ => ⟨P_74.out.x.cell 0, BR_74.out.three⟩) ?_
                  clear hK Kc
                  try simp only [List.getElem_toArray, List.getElem_cons_zero, List.getElem_cons_succ, Act.put, List.setIfInBounds_toArray, List.set_cons_zero, List.set_cons_succ]
                  generalize wd.heap.size = g8 at *
                  generalize wd.alloc (.cells #[.slice none 0 0] 26) = x74 at *
                  clear P_0 BR_0
                  refine wpAnyN_2 (i := 0) (j := 5) rfl rfl (by kernel_rfl) ?_ ?_
                  · intro Kc hK
                    go_simp
                    have P_75 := Lib.hid (P_74.out.alloc (.cells #[] 59))
                    have BR_75 := Lib.hid (BR_74.out.alloc (.cells #[] 59))
                    have BL_75 := Lib.hid (BL_74.out.alloc (.cells #[] 59))
                    have OE_75 := Lib.hid (World.ownsRow_made (base := w.heap.size) (e := 59) (size := 3) x74 #[] 0 (by have := P_74.out.x.lt; omega) (by unfold maxLen; omega) rfl)
                    have ne0_gr : gr < x74.heap.size := BR_74.out.lt
                    have ne0_ga : ga < x74.heap.size := (P_74.out.q.lt ga rfl).2
                    have ne0_g8 : g8 < x74.heap.size := BL_74.out.lt
                    have e0_low : w.heap.size + 1 < x74.heap.size := P_74.out.x.lt
                    refine hK.out _ _ (fun _ => ⟨P_75.out.x.cell 0, BR_75.out.three⟩) ?_
                    clear hK Kc
                    try simp only [List.getElem_toArray, List.getElem_cons_zero, List.getElem_cons_succ, Act.put, List.setIfInBounds_toArray, List.set_cons_zero, List.set_cons_succ]
                    generalize x74.heap.size = e0 at *
                    generalize x74.alloc (.cells #[] 59) = x75 at *
                    clear P_74 BR_74 BL_74
                    refine wpAnyN_2 (i := 3) (j := 5) rfl rfl (by kernel_rfl) ?_ ?_
                    · intro Kc hK
                      refine step_copyL (by rfl) _ _ _ (by rfl) w.heap.size 59 3 32 elem_rule Fac.cells e0 (by rfl) OE_75.out ⟨ga, 0, none⟩ n c rs (by rfl) HLn.out hn0 (Hnews.out _ P_75.out) (fun x _ => fac_len x) (fun x _ => one_fac x) (by omega) (by omega) (by unfold maxLen; omega) P_75.out.e.size ?_
                      intro A3 c3 x76 own3 hg3 at3
                      obtain ⟨o3, cap3, hv3, _, _⟩ := own3.form hn0
                      obtain rfl : A3 = some ⟨o3, 0, none⟩ := by injection hv3
                      have h3_gr : gr < x75.heap.size := BR_75.out.lt
                      have h3_ga : ga < x75.heap.size := (P_75.out.q.lt ga rfl).2
                      have h3_g8 : g8 < x75.heap.size := BL_75.out.lt
                      have at3 : o3 = e0 ∨ o3 = x75.heap.size := at3.imp (fun h => Option.some.inj h) (fun h => Option.some.inj h)
                      have o3_low : w.heap.size + 1 < o3 := by have h := P_75.out.x.lt; rcases at3 with h3 | h3 <;> omega
                      have o3_gr : gr ≠ o3 := by rcases at3 with h3 | h3 <;> omega
                      have o3_ga : ga ≠ o3 := by rcases at3 with h3 | h3 <;> omega
                      have o3_g8 : g8 ≠ o3 := by rcases at3 with h3 | h3 <;> omega
                      have P_76 := Lib.hid (P_75.out.keepAt hg3 (show w.heap.size + 2 ≤ e0 by omega) (by omega))
                      have BR_76 := Lib.hid (BR_75.out.grown hg3 (by intro e; injection e with e; omega))
                      have BL_76 := Lib.hid (BL_75.out.grown hg3 (by intro e; injection e with e; omega))
                      have OC_76 := Lib.hid own3
                      refine hK.out _ _ (fun _ => ⟨P_76.out.x.cell 0, BR_76.out.three⟩) ?_
                      clear hK Kc own3 hg3 at3 hv3 h3_gr h3_ga h3_g8
                      try simp only [List.getElem_toArray, List.getElem_cons_zero, List.getElem_cons_succ, Act.put, List.setIfInBounds_toArray, List.set_cons_zero, List.set_cons_succ]
                      clear P_75 BR_75 OE_75 BL_75
                      refine wpAnyN_next (i := 5) rfl (by kernel_rfl) (fun Kc hK => ?_)
                      go_simp
                      have P_77 := Lib.hid (P_76.out.alloc (.cells #[.string .empty, .int .i64 l, .int .i64 r] 59))
                      have BR_77 := Lib.hid (BR_76.out.alloc (.cells #[.string .empty, .int .i64 l, .int .i64 r] 59))
                      have OC_77 := Lib.hid (OC_76.out.alloc (.cells #[.string .empty, .int .i64 l, .int .i64 r] 59))
                      have BL_77 := Lib.hid (BL_76.out.alloc (.cells #[.string .empty, .int .i64 l, .int .i64 r] 59))
                      have B5_77 := Lib.hid (Blk.new x76 59 #[.string .empty, .int .i64 l, .int .i64 r])
                      have ng5_gr : gr < x76.heap.size := BR_76.out.lt
                      have ng5_ga : ga < x76.heap.size := (P_76.out.q.lt ga rfl).2
                      have ng5_o3 : o3 < x76.heap.size := (OC_76.out.lt o3 rfl).2
                      have ng5_g8 : g8 < x76.heap.size := BL_76.out.lt
                      have g5_low : w.heap.size + 1 < x76.heap.size := P_76.out.x.lt
                      refine hK.out _ _ (fun _ => ⟨P_77.out.x.cell 0, BR_77.out.three⟩) ?_
                      clear hK Kc
                      try simp only [List.getElem_toArray, List.getElem_cons_zero, List.getElem_cons_succ, Act.put, List.setIfInBounds_toArray, List.set_cons_zero, List.set_cons_succ]
                      generalize x76.heap.size = g5 at *
                      generalize x76.alloc (.cells #[.string .empty, .int .i64 l, .int .i64 r] 59) = x77 at *
                      clear P_76 BR_76 OC_76 BL_76
                      refine wpAnyN_next (i := 6) rfl (by kernel_rfl) (fun Kc hK => ?_)
                      refine step_pushL (by rfl) _ _ _ (by rfl) w.heap.size 59 3 32 elem_rule Fac.cells (some ⟨o3, 0, none⟩) n c3 rs (by rfl) OC_77.out g5 ⟨⟨#[]⟩, l, r⟩ #[.string .empty, .int .i64 l, .int .i64 r] 59 (0, 0) (by rfl) B5_77.out rfl rfl (one_fac _) (by omega) (by omega) (by unfold maxLen; omega) P_77.out.e.size ?_
                      intro A6 c6 x78 own6 hg6 at6
                      have P_78 := Lib.hid (P_77.out.keepAt hg6 (show w.heap.size + 2 ≤ o3 by omega) (by omega))
                      have BR_78 := Lib.hid (BR_77.out.grown hg6 (by intro e; have e2 : some gr = some o3 := e; injection e2 with e2; omega))
                      have BL_78 := Lib.hid (BL_77.out.grown hg6 (by intro e; have e2 : some g8 = some o3 := e; injection e2 with e2; omega))
                      have O6_78 := Lib.hid own6
                      refine hK.out _ _ (fun h => absurd h (by decide)) ?_
                      clear hK Kc own6 hg6 at6
                      try simp only [List.getElem_toArray, List.getElem_cons_zero, List.getElem_cons_succ, Act.put, List.setIfInBounds_toArray, List.set_cons_zero, List.set_cons_succ]
                      clear P_77 BR_77 OC_77 B5_77 BL_77
                      refine wpAnyN_next (i := 7) rfl (by kernel_rfl) (fun Kc hK => ?_)
                      go_simp
                      refine hK.out _ _ (fun h => absurd h (by decide)) ?_
                      clear hK Kc
                      try simp only [List.getElem_toArray, List.getElem_cons_zero, List.getElem_cons_succ, Act.put, List.setIfInBounds_toArray, List.set_cons_zero, List.set_cons_succ]
                      refine wpAnyN_next (i := 9) rfl (by kernel_rfl) (fun Kc hK => ?_)
                      have b9c := BL_78.out.cell 0
                      have b9f := BL_78.out.frozen
                      have b9l := BL_78.out.lt
                      go_simp
                      have P_80 := Lib.hid (P_78.out.keepAt (gb_set x78 g8 0 (.slice A6 (n + 1) c6)) (show w.heap.size + 2 ≤ g8 by omega) (by omega))
                      have BL_80 := Lib.hid (BL_78.out.set_ 0 (.slice A6 (n + 1) c6))
                      have O6_80 := Lib.hid (own_kept' (i := 0) O6_78.out BL_78.out (by decide) (.slice A6 (n + 1) c6))
                      refine hK.out _ _ (fun h => absurd h (by decide)) ?_
                      clear hK Kc b9c b9f b9l
                      try simp only [List.getElem_toArray, List.getElem_cons_zero, List.getElem_cons_succ, Act.put, List.setIfInBounds_toArray, List.set_cons_zero, List.set_cons_succ]
                      refine wpAnyN_done (by kernel_rfl) ?_ _
                      go_wp2_with fail
                      go_meet
                      exact ⟨g8, A6, c6, rfl, P_80, BL_80, O6_80, Lib.hid g8_low⟩
                    · intro Kc hK
                      go_simp
                      have P_81 := Lib.hid (P_75.out.alloc (.cells #[.string .empty, .int .i64 l, .int .i64 r] 59))
                      have BR_81 := Lib.hid (BR_75.out.alloc (.cells #[.string .empty, .int .i64 l, .int .i64 r] 59))
                      have OE_81 := Lib.hid (OE_75.out.alloc (.cells #[.string .empty, .int .i64 l, .int .i64 r] 59))
                      have BL_81 := Lib.hid (BL_75.out.alloc (.cells #[.string .empty, .int .i64 l, .int .i64 r] 59))
                      have B5_81 := Lib.hid (Blk.new x75 59 #[.string .empty, .int .i64 l, .int .i64 r])
                      have ng5_gr : gr < x75.heap.size := BR_75.out.lt
                      have ng5_ga : ga < x75.heap.size := (P_75.out.q.lt ga rfl).2
                      have ng5_e0 : e0 < x75.heap.size := (OE_75.out.lt e0 rfl).2
                      have ng5_g8 : g8 < x75.heap.size := BL_75.out.lt
                      have g5_low : w.heap.size + 1 < x75.heap.size := P_75.out.x.lt
                      refine hK.out _ _ (fun _ => ⟨P_81.out.x.cell 0, BR_81.out.three⟩) ?_
                      clear hK Kc
                      try simp only [List.getElem_toArray, List.getElem_cons_zero, List.getElem_cons_succ, Act.put, List.setIfInBounds_toArray, List.set_cons_zero, List.set_cons_succ]
                      generalize x75.heap.size = g5 at *
                      generalize x75.alloc (.cells #[.string .empty, .int .i64 l, .int .i64 r] 59) = x81 at *
                      clear P_75 BR_75 OE_75 BL_75
                      refine wpAnyN_next (i := 3) rfl (by kernel_rfl) (fun Kc hK => ?_)
                      refine step_copyL (by rfl) _ _ _ (by rfl) w.heap.size 59 3 32 elem_rule Fac.cells e0 (by rfl) OE_81.out ⟨ga, 0, none⟩ n c rs (by rfl) HLn.out hn0 (Hnews.out _ P_81.out) (fun x _ => fac_len x) (fun x _ => one_fac x) (by omega) (by omega) (by unfold maxLen; omega) P_81.out.e.size ?_
                      intro A3 c3 x82 own3 hg3 at3
                      obtain ⟨o3, cap3, hv3, _, _⟩ := own3.form hn0
                      obtain rfl : A3 = some ⟨o3, 0, none⟩ := by injection hv3
                      have h3_gr : gr < x81.heap.size := BR_81.out.lt
                      have h3_ga : ga < x81.heap.size := (P_81.out.q.lt ga rfl).2
                      have h3_g5 : g5 < x81.heap.size := B5_81.out.lt
                      have h3_g8 : g8 < x81.heap.size := BL_81.out.lt
                      have at3 : o3 = e0 ∨ o3 = x81.heap.size := at3.imp (fun h => Option.some.inj h) (fun h => Option.some.inj h)
                      have o3_low : w.heap.size + 1 < o3 := by have h := P_81.out.x.lt; rcases at3 with h3 | h3 <;> omega
                      have o3_gr : gr ≠ o3 := by rcases at3 with h3 | h3 <;> omega
                      have o3_ga : ga ≠ o3 := by rcases at3 with h3 | h3 <;> omega
                      have o3_g5 : g5 ≠ o3 := by rcases at3 with h3 | h3 <;> omega
                      have o3_g8 : g8 ≠ o3 := by rcases at3 with h3 | h3 <;> omega
                      have P_82 := Lib.hid (P_81.out.keepAt hg3 (show w.heap.size + 2 ≤ e0 by omega) (by omega))
                      have BR_82 := Lib.hid (BR_81.out.grown hg3 (by intro e; injection e with e; omega))
                      have B5_82 := Lib.hid (B5_81.out.grown hg3 (by intro e; injection e with e; omega))
                      have BL_82 := Lib.hid (BL_81.out.grown hg3 (by intro e; injection e with e; omega))
                      have OC_82 := Lib.hid own3
                      refine hK.out _ _ (fun _ => ⟨P_82.out.x.cell 0, BR_82.out.three⟩) ?_
                      clear hK Kc own3 hg3 at3 hv3 h3_gr h3_ga h3_g5 h3_g8
                      try simp only [List.getElem_toArray, List.getElem_cons_zero, List.getElem_cons_succ, Act.put, List.setIfInBounds_toArray, List.set_cons_zero, List.set_cons_succ]
                      clear P_81 BR_81 OE_81 B5_81 BL_81
                      refine wpAnyN_next (i := 6) rfl (by kernel_rfl) (fun Kc hK => ?_)
                      refine step_pushL (by rfl) _ _ _ (by rfl) w.heap.size 59 3 32 elem_rule Fac.cells (some ⟨o3, 0, none⟩) n c3 rs (by rfl) OC_82.out g5 ⟨⟨#[]⟩, l, r⟩ #[.string .empty, .int .i64 l, .int .i64 r] 59 (0, 0) (by rfl) B5_82.out rfl rfl (one_fac _) (by omega) (by omega) (by unfold maxLen; omega) P_82.out.e.size ?_
                      intro A6 c6 x83 own6 hg6 at6
                      have P_83 := Lib.hid (P_82.out.keepAt hg6 (show w.heap.size + 2 ≤ o3 by omega) (by omega))
                      have BR_83 := Lib.hid (BR_82.out.grown hg6 (by intro e; have e2 : some gr = some o3 := e; injection e2 with e2; omega))
                      have BL_83 := Lib.hid (BL_82.out.grown hg6 (by intro e; have e2 : some g8 = some o3 := e; injection e2 with e2; omega))
                      have O6_83 := Lib.hid own6
                      refine hK.out _ _ (fun h => absurd h (by decide)) ?_
                      clear hK Kc own6 hg6 at6
                      try simp only [List.getElem_toArray, List.getElem_cons_zero, List.getElem_cons_succ, Act.put, List.setIfInBounds_toArray, List.set_cons_zero, List.set_cons_succ]
                      clear P_82 BR_82 OC_82 B5_82 BL_82
                      refine wpAnyN_next (i := 7) rfl (by kernel_rfl) (fun Kc hK => ?_)
                      go_simp
                      refine hK.out _ _ (fun h => absurd h (by decide)) ?_
                      clear hK Kc
                      try simp only [List.getElem_toArray, List.getElem_cons_zero, List.getElem_cons_succ, Act.put, List.setIfInBounds_toArray, List.set_cons_zero, List.set_cons_succ]
                      refine wpAnyN_next (i := 9) rfl (by kernel_rfl) (fun Kc hK => ?_)
                      have b9c := BL_83.out.cell 0
                      have b9f := BL_83.out.frozen
                      have b9l := BL_83.out.lt
                      go_simp
                      have P_85 := Lib.hid (P_83.out.keepAt (gb_set x83 g8 0 (.slice A6 (n + 1) c6)) (show w.heap.size + 2 ≤ g8 by omega) (by omega))
                      have BL_85 := Lib.hid (BL_83.out.set_ 0 (.slice A6 (n + 1) c6))
                      have O6_85 := Lib.hid (own_kept' (i := 0) O6_83.out BL_83.out (by decide) (.slice A6 (n + 1) c6))
                      refine hK.out _ _ (fun h => absurd h (by decide)) ?_
                      clear hK Kc b9c b9f b9l
                      try simp only [List.getElem_toArray, List.getElem_cons_zero, List.getElem_cons_succ, Act.put, List.setIfInBounds_toArray, List.set_cons_zero, List.set_cons_succ]
                      refine wpAnyN_done (by kernel_rfl) ?_ _
                      go_wp2_with fail
                      go_meet
                      exact ⟨g8, A6, c6, rfl, P_85, BL_85, O6_85, Lib.hid g8_low⟩
                  · intro Kc hK
                    go_simp
                    have P_86 := Lib.hid (P_74.out.alloc (.cells #[.string .empty, .int .i64 l, .int .i64 r] 59))
                    have BR_86 := Lib.hid (BR_74.out.alloc (.cells #[.string .empty, .int .i64 l, .int .i64 r] 59))
                    have BL_86 := Lib.hid (BL_74.out.alloc (.cells #[.string .empty, .int .i64 l, .int .i64 r] 59))
                    have B5_86 := Lib.hid (Blk.new x74 59 #[.string .empty, .int .i64 l, .int .i64 r])
                    have ng5_gr : gr < x74.heap.size := BR_74.out.lt
                    have ng5_ga : ga < x74.heap.size := (P_74.out.q.lt ga rfl).2
                    have ng5_g8 : g8 < x74.heap.size := BL_74.out.lt
                    have g5_low : w.heap.size + 1 < x74.heap.size := P_74.out.x.lt
                    refine hK.out _ _ (fun _ => ⟨P_86.out.x.cell 0, BR_86.out.three⟩) ?_
                    clear hK Kc
                    try simp only [List.getElem_toArray, List.getElem_cons_zero, List.getElem_cons_succ, Act.put, List.setIfInBounds_toArray, List.set_cons_zero, List.set_cons_succ]
                    generalize x74.heap.size = g5 at *
                    generalize x74.alloc (.cells #[.string .empty, .int .i64 l, .int .i64 r] 59) = x86 at *
                    clear P_74 BR_74 BL_74
                    refine wpAnyN_next (i := 0) rfl (by kernel_rfl) (fun Kc hK => ?_)
                    go_simp
                    have P_87 := Lib.hid (P_86.out.alloc (.cells #[] 59))
                    have BR_87 := Lib.hid (BR_86.out.alloc (.cells #[] 59))
                    have B5_87 := Lib.hid (B5_86.out.alloc (.cells #[] 59))
                    have BL_87 := Lib.hid (BL_86.out.alloc (.cells #[] 59))
                    have OE_87 := Lib.hid (World.ownsRow_made (base := w.heap.size) (e := 59) (size := 3) x86 #[] 0 (by have := P_86.out.x.lt; omega) (by unfold maxLen; omega) rfl)
                    have ne0_gr : gr < x86.heap.size := BR_86.out.lt
                    have ne0_ga : ga < x86.heap.size := (P_86.out.q.lt ga rfl).2
                    have ne0_g5 : g5 < x86.heap.size := B5_86.out.lt
                    have ne0_g8 : g8 < x86.heap.size := BL_86.out.lt
                    have e0_low : w.heap.size + 1 < x86.heap.size := P_86.out.x.lt
                    refine hK.out _ _ (fun _ => ⟨P_87.out.x.cell 0, BR_87.out.three⟩) ?_
                    clear hK Kc
                    try simp only [List.getElem_toArray, List.getElem_cons_zero, List.getElem_cons_succ, Act.put, List.setIfInBounds_toArray, List.set_cons_zero, List.set_cons_succ]
                    generalize x86.heap.size = e0 at *
                    generalize x86.alloc (.cells #[] 59) = x87 at *
                    clear P_86 BR_86 B5_86 BL_86
                    refine wpAnyN_next (i := 3) rfl (by kernel_rfl) (fun Kc hK => ?_)
                    refine step_copyL (by rfl) _ _ _ (by rfl) w.heap.size 59 3 32 elem_rule Fac.cells e0 (by rfl) OE_87.out ⟨ga, 0, none⟩ n c rs (by rfl) HLn.out hn0 (Hnews.out _ P_87.out) (fun x _ => fac_len x) (fun x _ => one_fac x) (by omega) (by omega) (by unfold maxLen; omega) P_87.out.e.size ?_
                    intro A3 c3 x88 own3 hg3 at3
                    obtain ⟨o3, cap3, hv3, _, _⟩ := own3.form hn0
                    obtain rfl : A3 = some ⟨o3, 0, none⟩ := by injection hv3
                    have h3_gr : gr < x87.heap.size := BR_87.out.lt
                    have h3_ga : ga < x87.heap.size := (P_87.out.q.lt ga rfl).2
                    have h3_g5 : g5 < x87.heap.size := B5_87.out.lt
                    have h3_g8 : g8 < x87.heap.size := BL_87.out.lt
                    have at3 : o3 = e0 ∨ o3 = x87.heap.size := at3.imp (fun h => Option.some.inj h) (fun h => Option.some.inj h)
                    have o3_low : w.heap.size + 1 < o3 := by have h := P_87.out.x.lt; rcases at3 with h3 | h3 <;> omega
                    have o3_gr : gr ≠ o3 := by rcases at3 with h3 | h3 <;> omega
                    have o3_ga : ga ≠ o3 := by rcases at3 with h3 | h3 <;> omega
                    have o3_g5 : g5 ≠ o3 := by rcases at3 with h3 | h3 <;> omega
                    have o3_g8 : g8 ≠ o3 := by rcases at3 with h3 | h3 <;> omega
                    have P_88 := Lib.hid (P_87.out.keepAt hg3 (show w.heap.size + 2 ≤ e0 by omega) (by omega))
                    have BR_88 := Lib.hid (BR_87.out.grown hg3 (by intro e; injection e with e; omega))
                    have B5_88 := Lib.hid (B5_87.out.grown hg3 (by intro e; injection e with e; omega))
                    have BL_88 := Lib.hid (BL_87.out.grown hg3 (by intro e; injection e with e; omega))
                    have OC_88 := Lib.hid own3
                    refine hK.out _ _ (fun _ => ⟨P_88.out.x.cell 0, BR_88.out.three⟩) ?_
                    clear hK Kc own3 hg3 at3 hv3 h3_gr h3_ga h3_g5 h3_g8
                    try simp only [List.getElem_toArray, List.getElem_cons_zero, List.getElem_cons_succ, Act.put, List.setIfInBounds_toArray, List.set_cons_zero, List.set_cons_succ]
                    clear P_87 BR_87 OE_87 B5_87 BL_87
                    refine wpAnyN_next (i := 6) rfl (by kernel_rfl) (fun Kc hK => ?_)
                    refine step_pushL (by rfl) _ _ _ (by rfl) w.heap.size 59 3 32 elem_rule Fac.cells (some ⟨o3, 0, none⟩) n c3 rs (by rfl) OC_88.out g5 ⟨⟨#[]⟩, l, r⟩ #[.string .empty, .int .i64 l, .int .i64 r] 59 (0, 0) (by rfl) B5_88.out rfl rfl (one_fac _) (by omega) (by omega) (by unfold maxLen; omega) P_88.out.e.size ?_
                    intro A6 c6 x89 own6 hg6 at6
                    have P_89 := Lib.hid (P_88.out.keepAt hg6 (show w.heap.size + 2 ≤ o3 by omega) (by omega))
                    have BR_89 := Lib.hid (BR_88.out.grown hg6 (by intro e; have e2 : some gr = some o3 := e; injection e2 with e2; omega))
                    have BL_89 := Lib.hid (BL_88.out.grown hg6 (by intro e; have e2 : some g8 = some o3 := e; injection e2 with e2; omega))
                    have O6_89 := Lib.hid own6
                    refine hK.out _ _ (fun h => absurd h (by decide)) ?_
                    clear hK Kc own6 hg6 at6
                    try simp only [List.getElem_toArray, List.getElem_cons_zero, List.getElem_cons_succ, Act.put, List.setIfInBounds_toArray, List.set_cons_zero, List.set_cons_succ]
                    clear P_88 BR_88 OC_88 B5_88 BL_88
                    refine wpAnyN_next (i := 7) rfl (by kernel_rfl) (fun Kc hK => ?_)
                    go_simp
                    refine hK.out _ _ (fun h => absurd h (by decide)) ?_
                    clear hK Kc
                    try simp only [List.getElem_toArray, List.getElem_cons_zero, List.getElem_cons_succ, Act.put, List.setIfInBounds_toArray, List.set_cons_zero, List.set_cons_succ]
                    refine wpAnyN_next (i := 9) rfl (by kernel_rfl) (fun Kc hK => ?_)
                    have b9c := BL_89.out.cell 0
                    have b9f := BL_89.out.frozen
                    have b9l := BL_89.out.lt
                    go_simp
                    have P_91 := Lib.hid (P_89.out.keepAt (gb_set x89 g8 0 (.slice A6 (n + 1) c6)) (show w.heap.size + 2 ≤ g8 by omega) (by omega))
                    have BL_91 := Lib.hid (BL_89.out.set_ 0 (.slice A6 (n + 1) c6))
                    have O6_91 := Lib.hid (own_kept' (i := 0) O6_89.out BL_89.out (by decide) (.slice A6 (n + 1) c6))
                    refine hK.out _ _ (fun h => absurd h (by decide)) ?_
                    clear hK Kc b9c b9f b9l
                    try simp only [List.getElem_toArray, List.getElem_cons_zero, List.getElem_cons_succ, Act.put, List.setIfInBounds_toArray, List.set_cons_zero, List.set_cons_succ]
                    refine wpAnyN_done (by kernel_rfl) ?_ _
                    go_wp2_with fail
                    go_meet
                    exact ⟨g8, A6, c6, rfl, P_91, BL_91, O6_91, Lib.hid g8_low⟩
              case rest =>
                obtain ⟨g8, A6, c6, rfl, P2, BL2, O2, Hlow⟩ := hcut
                clear P BR
                have hwf2 := Lib.hid (wf_snoc' HOk.out.wf l0 (by rw [HLn.out]; exact l1) r0 (by rw [HLn.out]; exact r1))
                have hl2 := Lib.hid (show (rs ++ [(⟨.empty, l, r⟩ : Fac)]).length = n + 1 by rw [List.length_append, HLn.out]; rfl)
                generalize rs ++ [(⟨.empty, l, r⟩ : Fac)] = rs2 at *
                have hgk := dg_gok hwf2.out (by rw [hl2.out]; omega)
                obtain ⟨ls2, hls2⟩ := Option.isSome_iff_exists.1 hgk
                have Hls := Lib.hid hls2
                have R2 := Lib.hid (Rd.of_own (fun x _ => fac_len x) hl2.out O2.out)
                have OKC := Lib.hid (l02Ok_any g8 A6 (n + 1) c6 rs2 wc BL2.out.lt (BL2.out.cell 0) (by omega) R2.out (wf_sz hwf2.out) true hgk)
                have LEC := Lib.hid (fun W (hb : Below wc.heap.size wc W) => l02Length_any g8 A6 (n + 1) c6 rs2 W (by have := BL2.out.lt; have := hb.size; omega) ((BL2.out.next hb).cell 0) (by omega) (R2.out.next hb) (wf_sz hwf2.out) ls2 (gOk_lens hls2).1)
                have HLast := Lib.hid (last_word (gOk_lens hls2).1)
                have hw1 : (wdN rs2).length ≤ 2 ^ 14 := by
                  have h1 := wds_pow hwf2.out n (by rw [hl2.out]; omega)
                  have h2 : 2 ^ n ≤ 2 ^ 14 := Nat.pow_le_pow_right (by omega) (by omega)
                  unfold wdN
                  rw [if_neg (by intro e; have := hl2.out; rw [e] at this; simp at this), hl2.out, Nat.add_sub_cancel]
                  omega
                rw [HLast.out] at LEC
                obtain ⟨wl, hwl⟩ : ∃ wl, (wdN rs2).length = wl := ⟨_, rfl⟩
                rw [hwl] at LEC hw1
                have HWl := Lib.hid hwl
                clear hls2 hgk hwl l0 l1 r0 r1
                go_wp2_with fail
                refine OKC.out.mono ?_
                rintro e wk ⟨rfl, hbk⟩
                have Pk := Lib.hid (P2.out.next hbk)
                have BLk := Lib.hid (BL2.out.next hbk)
                have Ok_ := Lib.hid (own_next O2.out hbk)
                have HBk := Lib.hid hbk
                clear hbk P2 BL2 O2
                go_wp2_with fail
                refine (LEC.out wk HBk.out).mono ?_
                rintro e wn ⟨rfl, hbn⟩
                have Pn := Lib.hid (Pk.out.next hbn)
                have BLn := Lib.hid (BLk.out.next hbn)
                have On := Lib.hid (own_next Ok_.out hbn)
                have g0 := BLn.out.cell 0
                have gl := BLn.out.lt
                have x0 := Pn.out.x.cell 0
                have xf := Pn.out.x.frozen
                have xl := Pn.out.x.lt
                have r0 := Pn.out.r.cell 0
                have rf := Pn.out.r.frozen
                have rl := Pn.out.r.lt
                clear hbn Pk BLk Ok_ HBk
                by_cases hml : most < (wl : Int)
                · have FIN := Lib.hid (Pn.out.done HLn.out)
                  have x5 := (Pn.out.r.set_ 0 (.slice (some ⟨ga, 0, none⟩) n c)).cell 0
                  go_wp2_with fail
                  refine bodyPost_ret (v := .agg #[.slice (some ⟨ga, 0, none⟩) n c]) (by simp [results, Try.results20, go_sem]; rw [x5]; rfl) rfl ?_
                  exact ⟨_, c, rs, by rw [HLn.out], HOk.out, FIN.out.1, FIN.out.2.1.mono (by omega), FIN.out.2.2⟩
                · have Pp := Lib.hid (Pn.out.put On.out)
                  have HOk2 := Lib.hid (show DgOk rs2 most from ⟨hwf2.out, by rw [hl2.out]; omega, by rw [hl2.out]; omega, by rw [HWl.out]; omega⟩)
                  go_wp2_with fail
                  go_roundw
                  case rel => exact ⟨z - 1, A6, n + 1, c6, K3, rs2, by go_num, by omega, by omega, by omega, hl2, HOk2, Pp⟩
                  case measure => simp [intOf]; omega
        · have z1 : ¬ (0 : Int) < (z : Int) := by omega
          have r0 := P.out.r.cell 0
          have rf := P.out.r.frozen
          have rl := P.out.r.lt
          have FIN := Lib.hid (P.out.done HLn.out)
          have x5 := (P.out.r.set_ 0 (.slice A n c)).cell 0
          go_wp2_with fail
          refine bodyPost_ret (v := .agg #[.slice A n c]) (by simp [results, Try.results20, go_sem]; rw [x5]; rfl) rfl ?_
          exact ⟨_, c, rs, by rw [HLn.out], HOk.out, FIN.out.1, FIN.out.2.1.mono (by omega), FIN.out.2.2⟩
end Go.Proofs.Ytajfjgemfnfakaa


/-
  The depth of a grammar in the program, and equal grammars in the reference.
-/
namespace Go.Proofs.Ytajfjgemfnfakaa
open Go.RowKit

set_option maxHeartbeats 1000000 in
theorem specSameG_any (A D : Option Addr) (n c d : Nat) (xs : List Fac) (w : World) (hn : n ≤ maxLen)
    (hx : Rd w w.heap.size A n 3 Fac.cells xs) (hy : Rd w w.heap.size D n 3 Fac.cells xs) :
    Calls Try.prog 11 #[.agg #[.slice A n c], .agg #[.slice D n d]] w (Ret (.bool true) w) := by
  have hl := Lib.hid hx.len
  unfold maxLen at hn
  go_enter Try.func11, Try.ntmps11
  go_wp2_with fail
  refine named fun w1 H1 => ?_
  have hb1 : Below w.heap.size w w1 := by rw [H1.out]; (repeat first | exact Below.refl _ _ | assumption | refine Below.drew ?_ | refine Below.alloc ?_ (by first | exact Nat.le_refl _ | (simp; done) | omega | (simp; omega)) _ | refine Below.setCell ?_ (by first | exact Nat.le_refl _ | (simp; done) | omega | (simp; omega)) _)
  have B1 := Lib.hid (show Blk w1 w.heap.size 26 #[.slice A n c] by rw [H1.out]; exact (Blk.new w _ _).alloc _)
  have B2 := Lib.hid (show Blk w1 (w.heap.size + 1) 26 #[.slice D n d] by rw [H1.out]; simpa using Blk.new (w.alloc _) _ _)
  clear H1
  go_loopw [5] (fun i_ w' => ∃ k : Nat, i_ = .int .i64 k ∧ k ≤ n ∧ Hid (Below w1.heap.size w1 w')) (fun i_ _ => n - (intOf i_).toNat)
  case atStart => exact ⟨0, rfl, by omega, Lib.hid (Below.refl _ _)⟩
  case round =>
    obtain ⟨k, rfl, hk, hb⟩ := hrel
    have g0 : wr.cell? ⟨w.heap.size, 0, none⟩ = some (.slice A n c) := (B1.out.next hb.out).cell 0
    have g1 : wr.cell? ⟨w.heap.size + 1, 0, none⟩ = some (.slice D n d) := (B2.out.next hb.out).cell 0
    have zg0 := (B1.out.next hb.out).lt
    have zg1 := (B2.out.next hb.out).lt
    have b := Lib.hid (hb1.trans (hb.out.mono hb1.size))
    by_cases hlt : k < n
    · obtain ⟨b1, o1, x, rfl, hB, gx, c0, c1, c2⟩ := (hx.below b.out).fac hlt
      obtain ⟨b2, o2, y, rfl, hB', gy, d0, d1, d2⟩ := (hy.below b.out).fac hlt
      obtain rfl : x = y := Option.some.inj (gx.symm.trans gy)
      have zs := b.out.size
      have zB : b1 < wr.heap.size := by omega
      have zB' : b2 < wr.heap.size := by omega
      clear gx gy hx hy
      have hup := upc wr.heap.size wr
      have i0 : (0 : Int) ≤ (k : Int) := by omega
      have i1 : (k : Int) < (n : Int) := by omega
      have hne := fun W => (neq_rule x x W).trans (by rw [show decide (x = x) = true from decide_eq_true rfl])
      go_wp2_with fail
      refine wp_region_up wr.heap.size (by kernel_rfl) (by kernel_rfl) ?_
      repeat (go_big_quiet_step (fail))
      refine wpQuiet_nil ?_
      intro w2 hw2
      have hb2 := up_of hw2
      go_wp2
      go_roundw
      case rel => exact ⟨k + 1, by go_num, by omega, Lib.hid (hb.out.trans (hb2.mono hb.out.size))⟩
      case measure => simp [intOf]; omega
    · go_wp2
      go_ret
      exact ⟨rfl, b.out⟩
set_option maxHeartbeats 1000000 in
set_option maxRecDepth 100000 in
theorem depthOf_any (A : Option Addr) (n c : Nat) (rs : List Fac) (ls : List Int) (w : World) (hn : n ≤ 1048576) (hr : Rd w w.heap.size A n 3 Fac.cells rs) (hls : gOk rs = some ls) :
    Calls Try.prog 14 #[.agg #[.slice A n c]] w (Ret (.tuple #[.int .i64 (depT rs), .int .i64 0]) w) := by
  have hl := Lib.hid hr.len
  have HR := Lib.hid hr; clear hr
  go_enter Try.func14, Try.ntmps14
  go_wp2_with fail
  refine namedC fun w3 H3 => ?_
  have hb3 : Below w.heap.size w w3 := by rw [H3.out]; (repeat first | exact Below.refl _ _ | assumption | refine Below.drew ?_ | refine Below.alloc ?_ (by first | exact Nat.le_refl _ | (simp; done) | omega | (simp; omega)) _ | refine Below.setCell ?_ (by first | exact Nat.le_refl _ | (simp; done) | omega | (simp; omega)) _)
  have BG := Lib.hid (show Blk w3 w.heap.size 26 #[.slice A n c] by rw [H3.out]; exact Blk.new _ _ _)
  clear H3
  obtain ⟨hgl, h400, hlen⟩ := gOk_lens hls
  have hok : ∀ f ∈ rs, f.l.size ≤ maxLen := wf_sz (wf_of hgl)
  refine (validG_any A n c rs w3 (by omega) (HR.out.next hb3) hok true (by rw [hls]; rfl)).mono ?_
  rintro e1 w4 ⟨rfl, hb4⟩
  have b4 := Lib.hid (hb3.trans (hb4.mono hb3.size))
  have BG4 := Lib.hid (BG.out.next hb4)
  have g4 := BG4.out.cell 0
  have k4 := BG4.out.lt
  have HW := Lib.hid (wf_of hgl)
  clear BG hb3 hb4 hok hgl hls
  go_wp2_with fail
  go_loopw [4, 15] (fun o_ i_ w' => ∃ (k : Nat) (A' : Option Addr) (c' : Nat), i_ = .int .i64 k ∧ o_ = .slice A' k c' ∧ k ≤ n ∧
      Hid (w'.ownsRow w.heap.size 2 1 (.slice A' k c') k ((outs 0 depF depG rs k).flatMap intE)) ∧ Hid (Below w.heap.size w w')) (fun _ i_ _ => n - (intOf i_).toNat)
  case atStart =>
    exact ⟨0, _, 0, rfl, rfl, by omega, Lib.hid (by simpa [outs, foldG] using World.ownsRow_made (base := w.heap.size) (e := 2) (size := 1) w4 #[] 0 b4.out.size (by unfold maxLen; omega) rfl), Lib.hid (b4.out.alloc b4.out.size _)⟩
  case round =>
    obtain ⟨k, A', c', rfl, rfl, hk, hown, hb⟩ := hrel
    by_cases hlt : k < n
    · obtain ⟨b, o, x, rfl, hB, gx, c0, c1, c2⟩ := (HR.out.next hb.out).fac hlt
      have Hst := Lib.hid (outs_step 0 depF depG gx)
      have Hol := Lib.hid (outs_len 0 depF depG rs k (by rw [hl.out]; exact hk))
      have i0 : (0 : Int) ≤ k := by omega
      have i1 : (k : Int) < n := by omega
      have Gx := Lib.hid gx
      clear gx
      go_wp2_with fail
      refine namedC fun w5 H5 => ?_
      have hb5 : Below wr.heap.size wr w5 := by rw [H5.out]; (repeat first | exact Below.refl _ _ | assumption | refine Below.drew ?_ | refine Below.alloc ?_ (by first | exact Nat.le_refl _ | (simp; done) | omega | (simp; omega)) _ | refine Below.setCell ?_ (by first | exact Nat.le_refl _ | (simp; done) | omega | (simp; omega)) _)
      have BX := Lib.hid (show Blk w5 wr.heap.size 59 #[.string x.l, .int .i64 x.a, .int .i64 x.b] by rw [H5.out]; exact Blk.new _ _ _)
      clear H5
      obtain ⟨pb, hpb⟩ : ∃ pb, isP x = pb := ⟨_, rfl⟩
      refine (isPair_any x pb _ hpb).mono ?_
      rintro e w6 ⟨rfl, hb6⟩
      have b6 := Lib.hid (hb5.trans (hb6.mono hb5.size))
      have BX6 := Lib.hid (BX.out.next hb6)
      clear BX hb5 hb6
      have x1 : w6.cell? ⟨wr.heap.size, 1, none⟩ = some (.int .i64 x.a) := BX6.out.cell 1
      have x2 : w6.cell? ⟨wr.heap.size, 2, none⟩ = some (.int .i64 x.b) := BX6.out.cell 2
      have xl := BX6.out.lt
      by_cases h0 : x.l.size = 0
      · obtain rfl : pb = true := by rw [← hpb]; simp [isP, h0]
        rcases HW.out k x Gx.out with ⟨_, a0, a1, p0, p1⟩ | ⟨ch, _, q, _⟩
        rotate_left
        · rw [q] at h0; exact absurd h0 (show ¬ (1 : Nat) = 0 by omega)
        have own6 := Lib.hid (own_next hown.out b6.out)
        obtain ⟨g, rfl, hg0, hg1, e1⟩ := own_int own6.out Hol.out x.a a0 (by omega)
        obtain ⟨g', hgg, _, _, e2⟩ := own_int own6.out Hol.out x.b p0 (by omega)
        obtain rfl : g = g' := by injection hgg with hgg; injection hgg
        clear hgg
        have hbd1 := dep_bound HW.out (k := k) (i := x.a.toNat) (by rw [hl.out]; omega) (by omega)
        have hbd2 := dep_bound HW.out (k := k) (i := x.b.toNat) (by rw [hl.out]; omega) (by omega)
        have hfs := Lib.hid (show fStep 0 depF depG (outs 0 depF depG rs k) x = 1 + max ((outs 0 depF depG rs k).getD x.a.toNat 0) ((outs 0 depF depG rs k).getD x.b.toNat 0) by unfold fStep; rw [if_pos h0]; unfold depG; omega)
        generalize (outs 0 depF depG rs k).getD x.a.toNat 0 = y1 at *
        generalize (outs 0 depF depG rs k).getD x.b.toNat 0 = y2 at *
        have j1 : x.a < (k : Int) := by omega
        have j2 : x.b < (k : Int) := by omega
        obtain ⟨m, hm⟩ : ∃ m, max y1 y2 = m := ⟨_, rfl⟩
        have um2 : wrap64 (1 + m) = 1 + m := IntWalk.wrap64_in _ (by omega)
        rw [hm] at hfs
        clear hbd1 hbd2 h0
        go_wp2_with fail
        go_region
        have hmx : (if y1 < y2 then y2 else y1) = m := by rw [← hm]; split <;> omega
        rw [hmx, um2]
        have b6d := Lib.hid b6.out.drew
        generalize w6.drew = w7 at *
        have own7 := Lib.hid (own_next hown.out b6d.out)
        have b7 := Lib.hid (hb.out.trans (b6d.out.mono hb.out.size))
        go_wp2_with
          (at_builtin
           refine wpList_push (w0 := w) rfl _ _ _ rfl w.heap.size 2 1 8 elem_int intE _ k c' (outs 0 depF depG rs k) rfl (own7.out.alloc _) w7.heap.size (1 + m) #[.int .i64 (1 + m)] 2 (0, 0) rfl (heap_alloc_new _ _) rfl rfl (by simp [intE, Value.oneCell']) (by omega) (by omega) (by unfold maxLen; omega) rfl (b7.out.alloc b7.out.size _) ?_
           intro A9 c9 w9 own9 hg9 hat9 hb9
           have O9 := Lib.hid own9; clear own9)
        go_roundw
        case rel =>
          refine ⟨k + 1, A9, c9, by go_num, rfl, by omega, Lib.hid ?_, Lib.hid hb9⟩
          rw [Hst.out, hfs.out]; exact O9.out
        case measure => simp [intOf]; omega
      · obtain rfl : pb = false := by rw [← hpb]; simp [isP, h0]
        have hfs := Lib.hid (show fStep 0 depF depG (outs 0 depF depG rs k) x = 1 by unfold fStep; rw [if_neg h0]; rfl)
        clear h0
        have own7 := Lib.hid (own_next hown.out b6.out)
        have b7 := Lib.hid (hb.out.trans (b6.out.mono hb.out.size))
        go_wp2_with
          (at_builtin
           refine wpList_push (w0 := w) rfl _ _ _ rfl w.heap.size 2 1 8 elem_int intE _ k c' (outs 0 depF depG rs k) rfl (own7.out.alloc _) w6.heap.size (1) #[.int .i64 (1)] 2 (0, 0) rfl (heap_alloc_new _ _) rfl rfl (by simp [intE, Value.oneCell']) (by omega) (by omega) (by unfold maxLen; omega) rfl (b7.out.alloc b7.out.size _) ?_
           intro A9 c9 w9 own9 hg9 hat9 hb9
           have O9 := Lib.hid own9; clear own9)
        go_roundw
        case rel =>
          refine ⟨k + 1, A9, c9, by go_num, rfl, by omega, Lib.hid ?_, Lib.hid hb9⟩
          rw [Hst.out, hfs.out]; exact O9.out
        case measure => simp [intOf]; omega
    · obtain rfl : k = n := by omega
      have hd : outs 0 depF depG rs k = depths rs := outs_all 0 depF depG rs k (by rw [hl.out]; omega)
      have R := Lib.hid (show Rd wr wr.heap.size A' k 1 intE (depths rs) from hd ▸ Rd.of_own (enc := intE) (fun _ _ => rfl) (outs_len 0 depF depG rs k (by rw [hl.out]; omega)) hown.out)
      have HB := Lib.hid hb.out
      have hL := Lib.hid (fun W (h : Below wr.heap.size wr W) => last_any A' k c' (depths rs) W (by omega) (R.out.next h))
      have hdt : lastI (depths rs) = depT rs := rfl
      rw [hdt] at hL
      have i1 : ¬ (k : Int) < (k : Int) := by omega
      go_wp2_with (go_at_call 30; refine (hL.out _ (by (repeat first | exact Below.refl _ _ | assumption | refine Below.drew ?_ | refine Below.alloc ?_ (by first | exact Nat.le_refl _ | (simp; done) | omega | (simp; omega)) _ | refine Below.setCell ?_ (by first | exact Nat.le_refl _ | (simp; done) | omega | (simp; omega)) _))).mono ?_; rintro e w9 ⟨rfl, hb9⟩)
      go_ret2
      exact ⟨rfl, HB.out.trans (hb9.mono HB.out.size)⟩
end Go.Proofs.Ytajfjgemfnfakaa
