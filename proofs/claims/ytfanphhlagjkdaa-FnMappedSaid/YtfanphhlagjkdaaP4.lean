/-
  Texts of this claim, merged: MapP Law.
-/
import Derived.Test.YtfanphhlagjkdaaP3
import Derived.ProofKit
import Derived.OpenShut
import Derived.JoinedCond
import Derived.Carry
import Derived.Deep.Slices
import Derived.Deep.Fields
import Derived.ChangeSame
import Derived.ChangeSlices
import Derived.SliceStrings
import Derived.Lib.SmallJoins


/-
  The letters of a grammar replaced, in the program.
-/
namespace Go.Proofs.Ytfanphhlagjkdaa
open Go.RowKit

theorem trR_sz (at_ : List Int) {r : Fac} (h : r.l.size ≤ 1) : (trR at_ r).l.size ≤ 1 := by
  unfold trR
  split
  · show 0 ≤ 1; omega
  · exact h
theorem outT_sz (used : List Bool) : ∀ (ks : List Fac) (i : Nat) (out : List Fac) (at_ : List Int), (∀ f ∈ ks, f.l.size ≤ 1) → (∀ f ∈ out, f.l.size ≤ 1) → ∀ f ∈ outT used i ks out at_, f.l.size ≤ 1
  | [], i, out, at_, _, ho => ho
  | r :: ks, i, out, at_, hk, ho => by
    rw [outT]
    have hr := hk r (by simp)
    have hk' : ∀ f ∈ ks, f.l.size ≤ 1 := fun f hf => hk f (by simp [hf])
    split
    · refine outT_sz used ks _ _ _ hk' fun f hf => ?_
      rcases List.mem_append.1 hf with h | h
      · exact ho f h
      · obtain rfl : f = trR at_ r := by simpa using h
        exact trR_sz _ hr
    · exact outT_sz used ks _ _ _ hk' ho
theorem trimL_sz {rs : List Fac} (hwf : WF rs) : ∀ f ∈ trimL rs, f.l.size ≤ 1 := by
  unfold trimL
  split
  · simp
  · refine outT_sz _ _ _ _ _ (fun f hf => ?_) (by simp)
    obtain ⟨j, hj⟩ := List.mem_iff_getElem?.1 hf
    have := (trK_I hwf 0 [] [] TrI.nil rfl (by omega)).1.k j f (by simpa using hj)
    rcases this with ⟨h0, _⟩ | ⟨c, _, hl, _⟩
    · omega
    · rw [hl]; show 1 ≤ 1; omega
theorem trK_len' : ∀ (rs kept : List Fac) (same : List Int), (trK rs kept same).1.length = kept.length + rs.length
  | [], kept, same => by simp [trK]
  | r :: rs, kept, same => by
    rw [trK, trK_len' rs]; simp; omega
theorem trimL_le (rs : List Fac) : (trimL rs).length ≤ rs.length := by
  unfold trimL
  split
  · simp
  · have h1 := outT_len (useT (trK rs [] []).1 rs.length (use0 rs.length (trK rs [] []).2)) (trK rs [] []).1 0 [] (List.replicate rs.length 0)
    have h2 := trK_len' rs [] []
    simp only [List.length_nil, Nat.zero_add] at h1 h2
    omega
theorem rd_take {α : Type} {w : World} {B n sz : Nat} {A : Option Addr} {enc : α → List Value} {xs : List α} (h : Rd w B A n sz enc xs) {k : Nat} (hk : k ≤ n) : Rd w B A k sz enc (xs.take k) := by
  refine ⟨by rw [List.length_take, h.1]; omega, fun hp => ?_⟩
  obtain ⟨b, o, hA, hb, hc⟩ := h.2 (by omega)
  refine ⟨b, o, hA, hb, fun i x hx j v hv => hc i x ?_ j v hv⟩
  rw [List.getElem?_take] at hx
  split at hx
  · exact hx
  · cases hx
theorem mapL1_any (s : ByteArray) (w : World) (hs : s.size ≤ maxLen) : Calls Try.prog 26 #[.string s] w (Ret (.bool (!okW s)) w) := by
  have hc := fun W => validWord_any s (okW s) W hs rfl
  generalize okW s = b at *
  go_enter Try.func26, Try.ntmps26
  go_wp2_with fail
  refine (hc _).mono ?_
  rintro e w1 ⟨rfl, hb1⟩
  go_wp2_with fail
  go_ret
  exact ⟨rfl, hb1⟩
theorem mapL1_ok : EnterOk 26 := enterOk Try.func26 (by kernel_rfl) (by kernel_rfl)
theorem containsW_any (B : Option Addr) (m d : Nat) (ws : List ByteArray) (w : World) (hm : m ≤ 1048576) (hw : Rd w w.heap.size B m 1 strEM ws) (hs : ∀ s ∈ ws, s.size ≤ maxLen) (b : Bool) (hb : (ws.all okW) = b) :
    Calls Try.prog 25 #[.slice B m d, .func (.func 26) #[] #[]] w (Ret (.bool (!b)) w) := by
  have h := containsStr_any 26 mapL1_ok #[] (fun s => !okW s) B m d ws w hm hw (fun k x hx w' _ => mapL1_any x w' (hs x (List.mem_of_getElem? hx)))
  have e : (ws.any fun s => !okW s) = !b := by
    rw [← hb]
    clear hb h hw hs hm
    induction ws with
    | nil => rfl
    | cons x r ih => simp only [List.any_cons, List.all_cons, ih, Bool.not_and]
  rw [e] at h; exact h
/-- 'MapLetters' under way -/
structure MpW (w W : World) (G S : Nat) (ga gv : Value) (A : Option Addr) (n c : Nat) (out : List Fac) (st : List Int) : Prop where
  q : W.ownsRow w.heap.size 65 3 (.slice A n c) n (out.flatMap Fac.cells)
  i : Blk W w.heap.size 26 #[ga]
  o : Blk W (w.heap.size + 1) 26 #[.slice none 0 0]
  g : Blk W G 26 #[gv]
  s : Blk W S 60 (intA st)
  e : Below w.heap.size w W
  n0 : w.heap.size + 1 < G
  n1 : w.heap.size ≤ S
section
variable {w W W' : World} {G S : Nat} {ga gv : Value} {A : Option Addr} {n c : Nat} {out : List Fac} {st : List Int}
theorem MpW.next (h : MpW w W G S ga gv A n c out st) (hb : Below W.heap.size W W') : MpW w W' G S ga gv A n c out st :=
  ⟨own_next h.q hb, h.i.next hb, h.o.next hb, h.g.next hb, h.s.next hb, h.e.trans (hb.mono h.e.size), h.n0, h.n1⟩
theorem MpW.alloc (h : MpW w W G S ga gv A n c out st) (o : Obj) : MpW w (W.alloc o) G S ga gv A n c out st := h.next ((Below.refl _ _).alloc (Nat.le_refl _) _)
theorem MpW.drew (h : MpW w W G S ga gv A n c out st) : MpW w W.drew G S ga gv A n c out st := h.next (Below.refl _ _).drew
/-- behind an append -/
theorem MpW.app {A8 : Option Addr} {k8 c8 : Nat} {out' : List Fac} (h : MpW w W G S ga gv A n c out st) (hq : W'.ownsRow w.heap.size 65 3 (.slice A8 k8 c8) k8 (out'.flatMap Fac.cells)) (hg : W.grownBy W' (Value.slice A n c).ownBlock) :
    MpW w W' G S ga gv A8 k8 c8 out' st :=
  ⟨hq, h.i.grown hg (own_blk_ne h.q h.i (by decide)), h.o.grown hg (own_blk_ne h.q h.o (by decide)), h.g.grown hg (own_blk_ne h.q h.g (by decide)), h.s.grown hg (own_blk_ne h.q h.s (by decide)), h.e.grown hg h.e.size (own_ge h.q), h.n0, h.n1⟩
/-- the new slice told -/
theorem MpW.put (h : MpW w W G S ga gv A n c out st) (u : Value) : MpW w (W.setCell ⟨G, 0, none⟩ u) G S ga u A n c out st := by
  have hg2 := gb_set W G 0 u
  have h0 := h.n0
  have hs : some S ≠ some G := fun e => by
    injection e with e
    have h1 := h.s; have h2 := h.g
    rw [e] at h1
    unfold Blk at h1 h2
    rw [h1] at h2
    injection h2 with h2; injection h2 with _ h2; exact absurd h2 (by decide)
  exact ⟨own_kept' h.q h.g (by decide) _, h.i.grown hg2 (by intro e; injection e with e; omega), h.o.grown hg2 (by intro e; injection e with e; omega), h.g.set_ 0 _, h.s.grown hg2 hs, h.e.setCell (by show w.heap.size ≤ G; omega) _, h.n0, h.n1⟩
/-- behind what writes a row of numbers -/
theorem MpW.far {v : Value} {k : Nat} {xs : List Value} (h : MpW w W G S ga gv A n c out st) (ho : W.ownsRow w.heap.size 2 1 v k xs) (hg : W.grownBy W' v.ownBlock) : MpW w W' G S ga gv A n c out st :=
  ⟨h.q.kept hg (own_ne h.q ho (by decide)), h.i.grown hg (own_blk_ne ho h.i (by decide)), h.o.grown hg (own_blk_ne ho h.o (by decide)), h.g.grown hg (own_blk_ne ho h.g (by decide)), h.s.grown hg (own_blk_ne ho h.s (by decide)), h.e.grown hg h.e.size (own_ge ho), h.n0, h.n1⟩
/-- a number told -/
theorem MpW.tell (h : MpW w W G S ga gv A n c out st) (i : Nat) (z : Int) : MpW w (W.setCell ⟨S, i, none⟩ (.int .i64 z)) G S ga gv A n c out (st.set i z) := by
  have hg2 := gb_set W S i (.int .i64 z)
  have nt : ∀ {g : Nat} {cs : Array Value}, Blk W g 26 cs → some g ≠ some S := fun hB e => by
    injection e with e; subst e
    have := hB.symm.trans h.s
    injection this with this; injection this with _ this; exact absurd this (by decide)
  have := h.s.set_ i (.int .i64 z)
  rw [intA_set] at this
  exact ⟨own_kept' h.q h.s (by decide) _, h.i.grown hg2 (nt h.i), h.o.grown hg2 (nt h.o), h.g.grown hg2 (nt h.g), this, h.e.setCell h.n1 _, h.n0, h.n1⟩
end
theorem getD_of {α : Type} {xs : List α} {k : Nat} {x d : α} (h : xs[k]? = some x) : xs.getD k d = x := by rw [List.getD_eq_getElem?_getD, h]; rfl
theorem mlGo_take (rs : List Fac) : ∀ (ws : List ByteArray) (w : ByteArray) (k : Nat) (s : List Fac × List Int), mlGo rs k (ws ++ [w]) s = mlStep rs (k + ws.length) w (mlGo rs k ws s)
  | [], _, _, _ => rfl
  | x :: ws, w, k, s => by
    show mlGo rs (k + 1) (ws ++ [w]) (mlStep rs k x s) = _
    rw [mlGo_take rs ws w (k + 1)]
    simp only [List.length_cons]
    rw [show k + 1 + ws.length = k + (ws.length + 1) by omega]; rfl
set_option maxHeartbeats 4000000 in
set_option maxRecDepth 100000 in
theorem implMap_any (A : Option Addr) (n c : Nat) (rs : List Fac) (B : Option Addr) (m d : Nat) (ws : List ByteArray) (w : World) (hn : n ≤ 1048576) (hm : m ≤ 1048576) (hr : Rd w w.heap.size A n 3 Fac.cells rs) (hw : Rd w w.heap.size B m 1 strEM ws)
    (hok : ∀ f ∈ rs, f.l.size ≤ maxLen) (hs : ∀ s ∈ ws, s.size ≤ 1048576) :
    Calls Try.prog 10 #[.agg #[.slice A n c], .slice B m d] w (RetGC w (mapF rs ws) (mapC rs ws)) := by
  have HR := Lib.hid hr; clear hr
  have HW := Lib.hid hw; clear hw
  have HO := Lib.hid hok; clear hok
  have hs' : ∀ s ∈ ws, s.size ≤ maxLen := fun s hx => by have := hs s hx; unfold maxLen; omega
  have HS := Lib.hid hs'; clear hs hs'
  have hl := Lib.hid HR.out.len
  have hlw := Lib.hid HW.out.len
  have start : ∀ w3, Hid (w3 = (w.alloc (.cells #[.slice A n c] 26)).alloc (.cells #[.slice none 0 0] 26)) →
      Below w.heap.size w w3 ∧ Blk w3 w.heap.size 26 #[.slice A n c] ∧ Blk w3 (w.heap.size + 1) 26 #[.slice none 0 0] := fun w3 H3 => by
    rw [H3.out]
    refine ⟨by (repeat first | exact Below.refl _ _ | assumption | refine Below.drew ?_ | refine Below.alloc ?_ (by first | exact Nat.le_refl _ | (simp; done) | omega | (simp; omega)) _ | refine Below.setCell ?_ (by first | exact Nat.le_refl _ | (simp; done) | omega | (simp; omega)) _), (Blk.new _ _ _).alloc _, ?_⟩
    simpa using Blk.new (w.alloc (.cells #[.slice A n c] 26)) 26 #[.slice none 0 0]
  have Start := Lib.hid start; clear start
  rcases hmo : mapOk rs ws with _ | _
  · have eT := Lib.hid (show mapF rs ws = [] by unfold mapF; rw [if_pos hmo])
    have eC := Lib.hid (show mapC rs ws = 1 by unfold mapC; rw [if_pos hmo])
    have shut : ∀ w4, Below w.heap.size w w4 → Blk w4 (w.heap.size + 1) 26 #[.slice none 0 0] →
        (w4.cell? ⟨w.heap.size + 1, 0, none⟩ = some (.slice none 0 0)) ∧ (∀ i, w4.frozen? ⟨w.heap.size + 1, i, none⟩ = false) ∧ w.heap.size + 1 < w4.heap.size ∧
        (w4.setCell ⟨w.heap.size + 1, 0, none⟩ (.slice none 0 0)).cell? ⟨w.heap.size + 1, 0, none⟩ = some (.slice none 0 0) ∧ Below w.heap.size w (w4.setCell ⟨w.heap.size + 1, 0, none⟩ (.slice none 0 0)) := fun w4 hb B4 => by
      refine ⟨B4.cell 0, B4.frozen, B4.lt, ?_, hb.setCell (by simp) _⟩
      rw [(B4.set_ 0 (.slice none 0 0)).cell 0]; rfl
    have Shut_ := Lib.hid shut; clear shut
    rcases hg : (gOk rs).isSome with _ | _
    · have Hg := Lib.hid hg
      clear hg hmo
      go_enter Try.func10, Try.ntmps10
      go_wp2_with fail
      refine namedC fun w3 H3 => ?_
      obtain ⟨hb3, BG, BC⟩ := Start.out w3 H3
      clear H3
      refine (validG_any A n c rs w3 (by omega) (HR.out.next hb3) HO.out false Hg.out).mono ?_
      rintro e1 w4 ⟨rfl, hb4⟩
      obtain ⟨d4, f4, l4, x5, b5⟩ := Shut_.out w4 (hb3.trans (hb4.mono hb3.size)) (BC.next hb4)
      clear BG BC
      go_wp2_with fail
      exact bodyPost_ret (v := .tuple #[.agg #[.slice none 0 0], .int .i64 1]) (by simp [results, Try.results10, go_sem, x5]) rfl ⟨none, 0, by rw [eT.out, eC.out]; rfl, by rw [eT.out]; exact World.ownsRow_nil _ _ _ _, b5⟩
    · have Hg := Lib.hid hg
      by_cases hm4 : m = 4
      · have hany : ws.all okW = false := by
          unfold mapOk at hmo
          rw [hg, hlw.out, decide_eq_true hm4] at hmo
          simpa using hmo
        have Ha := Lib.hid hany
        subst hm4
        clear hg hmo hany
        go_enter Try.func10, Try.ntmps10
        go_wp2_with fail
        refine namedC fun w3 H3 => ?_
        obtain ⟨hb3, BG, BC⟩ := Start.out w3 H3
        clear H3
        refine (validG_any A n c rs w3 (by omega) (HR.out.next hb3) HO.out true Hg.out).mono ?_
        rintro e1 w4 ⟨rfl, hb4⟩
        have b4 := hb3.trans (hb4.mono hb3.size)
        have BC4 := Lib.hid (BC.next hb4)
        clear BG BC
        go_wp2_with fail
        refine (containsW_any B 4 d ws w4 (by omega) (HW.out.next b4) HS.out false Ha.out).mono ?_
        rintro e1 w5 ⟨rfl, hb5⟩
        obtain ⟨d4, f4, l4, x5, b5⟩ := Shut_.out w5 (b4.trans (hb5.mono b4.size)) (BC4.out.next hb5)
        go_wp2_with fail
        exact bodyPost_ret (v := .tuple #[.agg #[.slice none 0 0], .int .i64 1]) (by simp [results, Try.results10, go_sem, x5]) rfl ⟨none, 0, by rw [eT.out, eC.out]; rfl, by rw [eT.out]; exact World.ownsRow_nil _ _ _ _, b5⟩
      · have hm4' : ((m : Int) == 4) = false := by simp; omega
        have hm5' : ((m : Int) != 4) = true := by simp; omega
        clear hg hmo hm4
        go_enter Try.func10, Try.ntmps10
        go_wp2_with fail
        refine namedC fun w3 H3 => ?_
        obtain ⟨hb3, BG, BC⟩ := Start.out w3 H3
        clear H3
        refine (validG_any A n c rs w3 (by omega) (HR.out.next hb3) HO.out true Hg.out).mono ?_
        rintro e1 w4 ⟨rfl, hb4⟩
        obtain ⟨d4, f4, l4, x5, b5⟩ := Shut_.out w4 (hb3.trans (hb4.mono hb3.size)) (BC.next hb4)
        clear BG BC
        go_wp2_with fail
        exact bodyPost_ret (v := .tuple #[.agg #[.slice none 0 0], .int .i64 1]) (by simp [results, Try.results10, go_sem, x5]) rfl ⟨none, 0, by rw [eT.out, eC.out]; rfl, by rw [eT.out]; exact World.ownsRow_nil _ _ _ _, b5⟩
  · have hF : mapF rs ws = _ := rfl
    have hg : (gOk rs).isSome = true := by unfold mapOk at hmo; simp only [Bool.and_eq_true] at hmo; exact hmo.1
    have hm4 : ws.length = 4 := by unfold mapOk at hmo; simp only [Bool.and_eq_true, decide_eq_true_eq] at hmo; exact hmo.2.1
    have ha : ws.all okW = true := by unfold mapOk at hmo; simp only [Bool.and_eq_true] at hmo; exact hmo.2.2
    obtain ⟨ls, hls⟩ := Option.isSome_iff_exists.1 hg
    have hwf := Lib.hid (wf_of (gOk_lens hls).1)
    have hn4 : n ≤ 400 := by have := (gOk_lens hls).2.1; have := hl.out; omega
    have Hg := Lib.hid hg
    have Ha := Lib.hid ha
    have HMO := Lib.hid hmo
    obtain rfl : m = 4 := by rw [← hlw.out]; exact hm4
    clear hF hg ha hls hmo hm4
    go_enter Try.func10, Try.ntmps10
    go_wp2_with fail
    refine namedC fun w3 H3 => ?_
    obtain ⟨hb3, BG, BC⟩ := Start.out w3 H3
    clear H3
    refine (validG_any A n c rs w3 (by omega) (HR.out.next hb3) HO.out true Hg.out).mono ?_
    rintro e1 w4 ⟨rfl, hb4⟩
    have b4 := hb3.trans (hb4.mono hb3.size)
    have BC4 := Lib.hid (BC.next hb4)
    have BG4 := Lib.hid (BG.next hb4)
    clear BG BC
    go_wp2_with fail
    refine (containsW_any B 4 d ws w4 (by omega) (HW.out.next b4) HS.out true Ha.out).mono ?_
    rintro e1 w5 ⟨rfl, hb5⟩
    have b5 := b4.trans (hb5.mono b4.size)
    have BC5 := Lib.hid (BC4.out.next hb5)
    have BG5 := Lib.hid (BG4.out.next hb5)
    have l5 := BC5.out.lt
    go_wp2_with fail
    refine named fun w6 H6 => ?_
    have M6 := Lib.hid (show MpW w w6 w5.heap.size (w5.heap.size + 1) (.slice A n c) (.slice none 0 0) none 0 0 [] [-1, -1, -1, -1] by
      rw [H6.out]
      refine ⟨World.ownsRow_nil _ _ _ _, (BG5.out.alloc _).alloc _, (BC5.out.alloc _).alloc _, (Blk.new _ _ _).alloc _, ?_, (b5.alloc b5.size _).alloc (Nat.le_trans b5.size (by simp)) _, l5, Nat.le_trans b5.size (by omega)⟩
      simpa [intA] using Blk.new (w5.alloc (.cells #[.slice none 0 0] 26)) 60 (intA [-1, -1, -1, -1]))
    have HR6 := Lib.hid (HR.out.next M6.out.e)
    have hGS : w5.heap.size ≠ w5.heap.size + 1 := by omega
    clear H6 BC5 BG5 l5
    generalize w5.heap.size + 1 = S at *
    generalize w5.heap.size = G at *
    have hfi := fun (v : Value) (W : World) => show (Instr.field 26 (.agg #[v]) 0).run Try.prog W = .ok v W by unfold Instr.field; kernel_rfl
    have Hfi := Lib.hid hfi; clear hfi
    go_loopw [31] (fun i_ w' => ∃ (k : Nat) (A' : Option Addr) (n' c' : Nat) (s : List Fac × List Int), i_ = .int .i64 k ∧ k ≤ 4 ∧ n' ≤ 2004 * k ∧ Hid (mlGo rs 0 (ws.take k) ([], [-1, -1, -1, -1]) = s) ∧ Hid (MlI s k) ∧ Hid (s.1.length = n') ∧
      Hid (MpW w w' G S (.slice A n c) (.slice A' n' c') A' n' c' s.1 s.2)) (fun i_ _ => (4 - intOf i_).toNat)
    case atStart => exact ⟨0, none, 0, 0, _, rfl, by omega, by omega, Lib.hid rfl, Lib.hid MlI.nil, Lib.hid rfl, M6⟩
    case round =>
      obtain ⟨k, A', n', c', s, rfl, hk4, hn', HQ, HI, hsl, M1⟩ := hrel
      by_cases hlt : k < 4
      · obtain ⟨bw, ow, x, rfl, hBw, gx, c0⟩ := (show Rd wr w.heap.size B 4 1 (fun s => [.string s]) ws from HW.out.below M1.out.e).str (k := k) hlt
        have hx := Lib.hid (show okW x = true by have := Ha.out; rw [List.all_eq_true] at this; exact this x (List.mem_of_getElem? gx))
        have hstep : mlGo rs 0 (ws.take (k + 1)) ([], [-1, -1, -1, -1]) = mlStep rs k x s := by
          rw [take_succ_at gx, mlGo_take, HQ.out, List.length_take, hlw.out, Nat.min_eq_left hk4, Nat.zero_add]
        have Hstep := Lib.hid hstep
        have HI2 := Lib.hid (HI.out.step (rs := rs) hlt hx.out)
        have g0 := M1.out.i.cell 0
        have gl := M1.out.i.lt
        have k0 : (0 : Int) ≤ (k : Int) := by omega
        have k1 : (k : Int) < 4 := by omega
        clear gx hstep
        by_cases hx0 : x.size = 0
        · have e0 := size0 hx0
          have E := Lib.hid (show mlStep rs k x s = s by unfold mlStep; rw [if_neg (fun h => h.1 hx0)])
          clear hx0
          go_wp2_with fail
          go_roundw
          case rel => exact ⟨k + 1, A', n', c', s, by go_num, by omega, by omega, by rw [E.out] at Hstep; exact Hstep, by rw [E.out] at HI2; exact HI2, hsl, M1⟩
          case measure => simp [intOf]; omega
        · have e0 := size1 hx0
          have e1 := size1' hx0
          have hnum := lb_num hlt
          have Hnum := Lib.hid hnum; clear hnum
          rcases hu : usedL rs (lb k) with _ | _
          · have E := Lib.hid (show mlStep rs k x s = s by unfold mlStep; rw [if_neg (fun h => by rw [hu] at h; cases h.2)])
            have Hu := Lib.hid (show decide (ruleC (lb k) ∈ rs) = false by rw [← usedL_mem hwf.out]; exact hu)
            clear hu hx0
            go_wp2_with (go_at_call 28; refine (hasLetter_any A n c rs _ (lb k) (by rw [Hnum.out]) _ (by omega) (HR.out.next M1.out.e) false Hu.out).mono ?_; rintro e w7 ⟨rfl, hb7⟩)
            go_roundw
            case rel => exact ⟨k + 1, A', n', c', s, by go_num, by omega, by omega, by rw [E.out] at Hstep; exact Hstep, by rw [E.out] at HI2; exact HI2, hsl, Lib.hid (M1.out.next hb7)⟩
            case measure => simp [intOf]; omega
          · have E := Lib.hid (show mlStep rs k x s = (s.1 ++ raiseL s.1.length (plainL x.data.toList), s.2.set k (((s.1.length + (plainL x.data.toList).length : Nat) : Int) - 1)) by unfold mlStep; rw [if_pos ⟨hx0, hu⟩])
            have Hu := Lib.hid (show decide (ruleC (lb k) ∈ rs) = true by rw [← usedL_mem hwf.out]; exact hu)
            obtain ⟨hlx, hsx⟩ := okW_let hx.out
            have HTw := Lib.hid (wf_plain hlx)
            have hTp := plainL_pos (w := x.data.toList) (fun e => hx0 (by rw [← byte_len, e]; rfl)) hlx
            have hTl := plainL_len x.data.toList
            rw [byte_len] at hTl
            have PC := Lib.hid (fun W => plain_any x W hx.out)
            clear hu hx0 hlx
            obtain ⟨T, hT⟩ : ∃ T, plainL x.data.toList = T := ⟨_, rfl⟩
            obtain ⟨L, hL⟩ : ∃ L, T.length = L := ⟨_, rfl⟩
            unfold RetG at PC
            rw [hT] at E HTw hTp hTl PC
            rw [hL] at E hTp hTl PC
            rw [hsl.out] at E
            have HL := Lib.hid hL
            clear hT hL
            go_upto_if 44 with (go_at_call 28; refine (hasLetter_any A n c rs _ (lb k) (by rw [Hnum.out]) _ (by omega) (HR.out.next M1.out.e) true Hu.out).mono ?_; rintro e w7 ⟨rfl, hb7⟩)
            have M2 := Lib.hid (M1.out.next hb7)
            have M3 := Lib.hid M2.out.drew
            have d0 := M2.out.g.cell 0
            have l0 := M2.out.g.lt
            have zk : (n' + L) * 32 ≤ 140737488355328 := by omega
            have zkm : n' + L ≤ maxLen := by unfold maxLen; omega
            have n0 : (0 : Int) ≤ (n' : Int) := by omega
            clear c0 e0 e1
            go_wp2_with fail
            go_region_law
              (first
                | (refine step_app (by rfl) _ _ _ (by rfl) w.heap.size 65 3 32 elem_rule Fac.cells A' n' c' s.1 (by rfl) M5.out.q ⟨g5, 0, none⟩ L c5 (raiseL n' T) (by rfl) (by rw [raiseL_len, HL.out]) hTp HN5.out (fun y _ => fac_len y) (fun y _ => one_fac y) (by omega) zk zkm M5.out.e.size ?_
                   intro A8 c8 w8 own8 hg8
                   have M8 := Lib.hid (M5.out.app own8 hg8)
                   have d8 := M8.out.g.cell 0
                   have f8 := M8.out.g.frozen
                   have l8 := M8.out.g.lt)
                | (go_simp
                   go_wp2_with (go_at_call 29; refine (raisedL_any A4 L c4 T _ _ (by omega) R4.out HTw.out (by omega) (by omega)).mono ?_; rintro e w5' ⟨A5, c5, rfl, own5, hb5'⟩)
                   have M5 := Lib.hid (M4.out.next hb5')
                   obtain ⟨g5, cp5, hv5, _, _⟩ := own5.form hTp
                   obtain rfl : A5 = some ⟨g5, 0, none⟩ := by injection hv5
                   have HN5 := Lib.hid (own5.cells (g := g5) rfl)
                   have d5 := M5.out.g.cell 0
                   have l5 := M5.out.g.lt
                   clear hv5 own5)
                | (go_simp
                   go_wp2_with (go_at_call 30; refine (PC.out _).mono ?_; rintro e w4' ⟨A4, c4, rfl, own4, hb4'⟩)
                   have M4 := Lib.hid (M3.out.next hb4')
                   have R4 := Lib.hid (Rd.of_own (fun y _ => fac_len y) HL.out own4)
                   have hfi := Hfi.out (.slice A4 L c4)
                   have d4 := M4.out.g.cell 0
                   have l4 := M4.out.g.lt
                   clear own4))
            all_goals
              have M9 := Lib.hid (M8.out.put (.slice A8 (n' + L) c8))
              have g9 := M9.out.g.cell 0
              have l9 := M9.out.g.lt
              have s9 := M9.out.s.cell k
              rw [intA_at s.2 (by rw [HI.out.st]; exact hlt)] at s9
              have fs9 := M9.out.s.frozen
              have ls9 := M9.out.s.lt
              have u1 : IntKind.i64.wrap (((n' + L : Nat) : Int) - 1) = ((n' + L : Nat) : Int) - 1 := IntWalk.i64_in _ (by omega)
              clear d8 f8 l8
              go_wp2_with fail
              go_roundw
              case rel =>
                refine ⟨k + 1, A8, n' + L, c8, (s.1 ++ raiseL n' T, s.2.set k (((n' + L : Nat) : Int) - 1)), by go_num, by omega, by omega, by rw [E.out] at Hstep; exact Hstep, by rw [E.out] at HI2; exact HI2, Lib.hid (by rw [List.length_append, raiseL_len, hsl.out, HL.out]), Lib.hid ?_⟩
                exact M9.out.tell k _
              case measure => simp [intOf]; omega
      · have hk5 : k = 4 := by omega
        have hQ := HQ.out
        rw [hk5, show ws.take 4 = ws from List.take_of_length_le (by rw [hlw.out]; omega)] at hQ
        have HS1 := Lib.hid (show mapS1 rs ws = s from hQ)
        have hst4 := Lib.hid HI.out.b
        have hsl4 : n' ≤ 8016 := by omega
        have HI0 := Lib.hid (show MrI (s.1, []) s.1.length 0 from ⟨HI.out.wf, rfl, fun i hi => by omega, by simp⟩)
        have g0 := M1.out.i.cell 0
        have gl := M1.out.i.lt
        clear hQ hk5 HQ
        go_wp2_with fail
        refine named fun w2 H2 => ?_
        have M2 := Lib.hid (show MpW w w2 G S (.slice A n c) (.slice A' n' c') A' n' c' s.1 s.2 by rw [H2.out]; exact M1.out.alloc _)
        have O2 := Lib.hid (show w2.ownsRow w.heap.size 2 1 (.slice (some ⟨wr.heap.size, 0, none⟩) 0 0) 0 (([] : List Int).flatMap intE) by
          rw [H2.out]; simpa using World.ownsRow_made (base := w.heap.size) (e := 2) (size := 1) wr #[] 0 M1.out.e.size (by unfold maxLen; omega) rfl)
        clear H2 g0 gl M1
        go_loopw [10, 67] (fun t_ i_ w' => ∃ (i : Nat) (A1 : Option Addr) (n1 c1 : Nat) (A2 : Option Addr) (c2 : Nat) (s2 : List Fac × List Int), i_ = .int .i64 i ∧ t_ = .slice A2 i c2 ∧ i ≤ n ∧ Hid (mrGo s.2 (rs.take i) (s.1, []) = s2) ∧ Hid (MrI s2 s.1.length i ∧ s.1.length ≤ s2.1.length) ∧ Hid (s2.1.length = n1) ∧
          Hid (MpW w w' G S (.slice A n c) (.slice A1 n1 c1) A1 n1 c1 s2.1 s.2) ∧ Hid (w'.ownsRow w.heap.size 2 1 (.slice A2 i c2) i (s2.2.flatMap intE))) (fun _ i_ _ => n - (intOf i_).toNat)
        case atStart => exact ⟨0, A', n', c', _, 0, _, rfl, rfl, by omega, Lib.hid rfl, Lib.hid ⟨HI0.out, Nat.le_refl _⟩, hsl, M2, O2⟩
        case round =>
          obtain ⟨i, A1, n1, c1, A2, c2, s2, rfl, rfl, hin, HQ, HI2, hs2, M1, O1⟩ := hrel
          have hn1 : n1 ≤ 8416 := by have := HI2.out.1.n; rw [hs2.out, hsl.out] at this; omega
          by_cases hlt : i < n
          · obtain ⟨b, o, x, rfl, hBr, gx, c0, c1', c2'⟩ := (HR.out.next M1.out.e).fac hlt
            have hxw := hwf.out i x gx
            have Hst2 := Lib.hid (show mrGo s.2 (rs.take (i + 1)) (s.1, []) = mrStep s.2 x s2 by rw [take_succ_at gx, mrGo_snoc, HQ.out])
            have HI3 := Lib.hid (show MrI (mrStep s.2 x s2) s.1.length (i + 1) ∧ s.1.length ≤ (mrStep s.2 x s2).1.length from by
              have h := HI2.out.1.step (st := s.2) (fun j hj => by have := hst4.out j hj; have := HI2.out.2; omega) hxw
              exact ⟨h.1, Nat.le_trans HI2.out.2 h.2⟩)
            have Mx := Lib.hid (M1.out.alloc (.cells #[.string x.l, .int .i64 x.a, .int .i64 x.b] 65))
            have Ox := Lib.hid (O1.out.alloc (.cells #[.string x.l, .int .i64 x.a, .int .i64 x.b] 65))
            have nbX := Lib.hid (show some wr.heap.size ≠ (Value.slice A1 n1 c1).ownBlock from fun e => by have := (M1.out.q.lt _ e.symm).2; omega)
            have nGX := Lib.hid (show G < wr.heap.size from M1.out.g.lt)
            have i0 : (0 : Int) ≤ (i : Int) := by omega
            have i1 : (i : Int) < (n : Int) := by omega
            clear gx
            rcases hxw with ⟨h0, a0, a1, b0, b1⟩ | ⟨cc, hcc, hxl, hxa, hxb⟩
            · have Hp := Lib.hid (show isP x = true by simp [isP, h0])
              have E0 := Lib.hid (show mrStep s.2 x s2 = (if s2.2.getD x.a.toNat 0 < 0 then (s2.1, s2.2 ++ [s2.2.getD x.b.toNat 0]) else if s2.2.getD x.b.toNat 0 < 0 then (s2.1, s2.2 ++ [s2.2.getD x.a.toNat 0]) else (s2.1 ++ [⟨⟨#[]⟩, s2.2.getD x.a.toNat 0, s2.2.getD x.b.toNat 0⟩], s2.2 ++ [(s2.1.length : Int)])) by unfold mrStep; rw [if_pos h0])
              have hba := HI2.out.1.b x.a.toNat (by omega)
              have hbb := HI2.out.1.b x.b.toNat (by omega)
              rw [hs2.out] at hba hbb
              have hst := Lib.hid HI2.out.1.st
              obtain ⟨gs, cps, hvs, _, _⟩ := O1.out.form (by omega)
              obtain rfl : A2 = some ⟨gs, 0, none⟩ := by injection hvs
              have HA := Lib.hid (fun (W : World) (h : W.ownsRow w.heap.size 2 1 (.slice (some ⟨gs, 0, none⟩) i c2) i (s2.2.flatMap intE)) => show W.cell? ⟨gs, x.a.toNat, none⟩ = some (.int .i64 (s2.2.getD x.a.toNat 0)) by simpa [intE] using own_at (enc := intE) (sz := 1) (fun _ _ => rfl) h hst.out 0 x.a.toNat (by omega) 0 Nat.zero_lt_one)
              have HB := Lib.hid (fun (W : World) (h : W.ownsRow w.heap.size 2 1 (.slice (some ⟨gs, 0, none⟩) i c2) i (s2.2.flatMap intE)) => show W.cell? ⟨gs, x.b.toNat, none⟩ = some (.int .i64 (s2.2.getD x.b.toNat 0)) by simpa [intE] using own_at (enc := intE) (sz := 1) (fun _ _ => rfl) h hst.out 0 x.b.toNat (by omega) 0 Nat.zero_lt_one)
              have ha2 : x.a < (i : Int) := a1
              have hb2 : x.b < (i : Int) := b1
              generalize s2.2.getD x.a.toNat 0 = sa at *
              generalize s2.2.getD x.b.toNat 0 = sb at *
              obtain ⟨q1, q2⟩ := hba
              obtain ⟨q3, q4⟩ := hbb
              clear hvs h0 a1 b1
              go_wp2_with fail
              refine (isPair_any x true _ Hp.out).mono ?_
              rintro e w1 ⟨rfl, hb1'⟩
              have M3 := Lib.hid (Mx.out.next hb1')
              have O3 := Lib.hid (own_next Ox.out hb1')
              have BX := Lib.hid ((Blk.new wr 65 #[.string x.l, .int .i64 x.a, .int .i64 x.b]).next hb1')
              obtain ⟨d0, d1, d2⟩ := BX.out.three
              have lx := BX.out.lt
              have ea := HA.out w1 O3.out
              have eb := HB.out w1 O3.out
              clear c0 c1' c2'
              by_cases hsa : sa < 0
              · have E := Lib.hid (show mrStep s.2 x s2 = (s2.1, s2.2 ++ [sb]) by rw [E0.out, if_pos hsa])
                go_wp2_with
                  (at_builtin
                   refine wpList_push (w0 := w) rfl _ _ _ rfl w.heap.size 2 1 8 elem_int intE _ i c2 s2.2 rfl (O3.out.alloc _) w1.heap.size sb #[.int .i64 sb] 2 (0, 0) rfl (heap_alloc_new _ _) rfl rfl (by simp [intE, Value.oneCell']) (by omega) (by omega) (by unfold maxLen; omega) rfl (M3.out.alloc (.cells #[.int .i64 sb] 2)).e ?_
                   intro A9 c9 w9 own9 hg9 hat9 hb9
                   have M9 := Lib.hid ((M3.out.alloc (.cells #[.int .i64 sb] 2)).far (O3.out.alloc _) hg9)
                   have O9 := Lib.hid own9; clear own9)
                go_roundw
                case rel => exact ⟨i + 1, A1, n1, c1, A9, c9, (s2.1, s2.2 ++ [sb]), by go_num, rfl, by omega, by rw [E.out] at Hst2; exact Hst2, by rw [E.out] at HI3; exact HI3, hs2, M9, O9⟩
                case measure => simp [intOf]; omega
              · by_cases hsb : sb < 0
                · have E := Lib.hid (show mrStep s.2 x s2 = (s2.1, s2.2 ++ [sa]) by rw [E0.out, if_neg hsa, if_pos hsb])
                  go_wp2_with
                    (at_builtin
                     refine wpList_push (w0 := w) rfl _ _ _ rfl w.heap.size 2 1 8 elem_int intE _ i c2 s2.2 rfl (O3.out.alloc _) w1.heap.size sa #[.int .i64 sa] 2 (0, 0) rfl (heap_alloc_new _ _) rfl rfl (by simp [intE, Value.oneCell']) (by omega) (by omega) (by unfold maxLen; omega) rfl (M3.out.alloc (.cells #[.int .i64 sa] 2)).e ?_
                     intro A9 c9 w9 own9 hg9 hat9 hb9
                     have M9 := Lib.hid ((M3.out.alloc (.cells #[.int .i64 sa] 2)).far (O3.out.alloc _) hg9)
                     have O9 := Lib.hid own9; clear own9)
                  go_roundw
                  case rel => exact ⟨i + 1, A1, n1, c1, A9, c9, (s2.1, s2.2 ++ [sa]), by go_num, rfl, by omega, by rw [E.out] at Hst2; exact Hst2, by rw [E.out] at HI3; exact HI3, hs2, M9, O9⟩
                  case measure => simp [intOf]; omega
                · have E1 := show mrStep s.2 x s2 = (s2.1 ++ [⟨⟨#[]⟩, sa, sb⟩], s2.2 ++ [(n1 : Int)]) by rw [E0.out, if_neg hsa, if_neg hsb, hs2.out]
                  have pc := fun W => pair64_any sa sb W (by omega) (by omega)
                  obtain ⟨y, hy⟩ : ∃ y : Fac, (⟨⟨#[]⟩, sa, sb⟩ : Fac) = y := ⟨_, rfl⟩
                  rw [hy] at E1 pc
                  have E := Lib.hid E1
                  have PC := Lib.hid pc
                  clear E1 pc hy E0
                  have gw1 := M3.out.g.cell 0
                  have gl1 := M3.out.g.lt
                  have zk : (n1 + 1) * 32 ≤ 140737488355328 := by omega
                  have zkm : n1 + 1 ≤ maxLen := by unfold maxLen; omega
                  have HS := Lib.hid (fun (W : World) (M : Blk W G 26 #[.slice A1 n1 c1]) (O : W.ownsRow w.heap.size 2 1 (.slice (some ⟨gs, 0, none⟩) i c2) i (s2.2.flatMap intE)) (X : Blk W wr.heap.size 65 #[.string x.l, .int .i64 x.a, .int .i64 x.b]) =>
                    show W.cell? ⟨G, 0, none⟩ = some (.slice A1 n1 c1) ∧ W.cell? ⟨wr.heap.size, 1, none⟩ = some (.int .i64 x.a) ∧ W.cell? ⟨wr.heap.size, 2, none⟩ = some (.int .i64 x.b) ∧ W.cell? ⟨gs, x.a.toNat, none⟩ = some (.int .i64 sa) ∧ W.cell? ⟨gs, x.b.toNat, none⟩ = some (.int .i64 sb) from
                    ⟨M.cell 0, X.three.2.1, X.three.2.2, HA.out W O, HB.out W O⟩)
                  have hS0 := HS.out w1.drew M3.out.g.drew (own_next O3.out (Below.refl _ _).drew) (BX.out.next (Below.refl _ _).drew)
                  go_wp2_with fail
                  clear ea eb d0 d1 d2
                  refine wp_region_N (fun W => W.cell? ⟨G, 0, none⟩ = some (.slice A1 n1 c1) ∧ W.cell? ⟨wr.heap.size, 1, none⟩ = some (.int .i64 x.a) ∧ W.cell? ⟨wr.heap.size, 2, none⟩ = some (.int .i64 x.b) ∧ W.cell? ⟨gs, x.a.toNat, none⟩ = some (.int .i64 sa) ∧ W.cell? ⟨gs, x.b.toNat, none⟩ = some (.int .i64 sb)) [16] (by kernel_rfl) ?_
                  refine wpAnyN_take (i := 0) (v := ?_) rfl (by kernel_rfl) (fun _ _ _ h => h) (by rfl) (fun W hW => ?_) hS0 ?_
                  rotate_left
                  · obtain ⟨z0, z1, z2, z3, z4⟩ := hW
                    go_simp
                    try with_reducible rfl
                  try simp only [Act.put, List.setIfInBounds_toArray, List.set_cons_zero, List.set_cons_succ]
                  refine wpAnyN_take (i := 1) (v := ?_) rfl (by kernel_rfl) (fun _ _ _ h => h) (by rfl) (fun W hW => ?_) hS0 ?_
                  rotate_left
                  · obtain ⟨z0, z1, z2, z3, z4⟩ := hW
                    go_simp
                    try with_reducible rfl
                  try simp only [Act.put, List.setIfInBounds_toArray, List.set_cons_zero, List.set_cons_succ]
                  refine wpAnyN_take (i := 2) (v := ?_) rfl (by kernel_rfl) (fun _ _ _ h => h) (by rfl) (fun W hW => ?_) hS0 ?_
                  rotate_left
                  · obtain ⟨z0, z1, z2, z3, z4⟩ := hW
                    go_simp
                    try with_reducible rfl
                  try simp only [Act.put, List.setIfInBounds_toArray, List.set_cons_zero, List.set_cons_succ]
                  refine wpAnyN_take (i := 3) (v := ?_) rfl (by kernel_rfl) (fun _ _ _ h => h) (by rfl) (fun W hW => ?_) hS0 ?_
                  rotate_left
                  · obtain ⟨z0, z1, z2, z3, z4⟩ := hW
                    go_simp
                    try with_reducible rfl
                  try simp only [Act.put, List.setIfInBounds_toArray, List.set_cons_zero, List.set_cons_succ]
                  refine wpAnyN_take (i := 4) (v := ?_) rfl (by kernel_rfl) (fun _ _ _ h => h) (by rfl) (fun W hW => ?_) hS0 ?_
                  rotate_left
                  · obtain ⟨z0, z1, z2, z3, z4⟩ := hW
                    go_simp
                    try with_reducible rfl
                  try simp only [Act.put, List.setIfInBounds_toArray, List.set_cons_zero, List.set_cons_succ]
                  refine wpAnyN_take (i := 5) (v := ?_) rfl (by kernel_rfl) (fun _ _ _ h => h) (by rfl) (fun W hW => ?_) hS0 ?_
                  rotate_left
                  · obtain ⟨z0, z1, z2, z3, z4⟩ := hW
                    go_simp
                    try with_reducible rfl
                  try simp only [Act.put, List.setIfInBounds_toArray, List.set_cons_zero, List.set_cons_succ]
                  refine wpAnyN_take (i := 6) (v := ?_) rfl (by kernel_rfl) (fun _ _ _ h => h) (by rfl) (fun W hW => ?_) hS0 ?_
                  rotate_left
                  · obtain ⟨z0, z1, z2, z3, z4⟩ := hW
                    go_simp
                    try with_reducible rfl
                  try simp only [Act.put, List.setIfInBounds_toArray, List.set_cons_zero, List.set_cons_succ]
                  refine wpAnyN_take (i := 7) (v := ?_) rfl (by kernel_rfl) (fun _ _ _ h => h) (by rfl) (fun W hW => ?_) hS0 ?_
                  rotate_left
                  · obtain ⟨z0, z1, z2, z3, z4⟩ := hW
                    go_simp
                    try with_reducible rfl
                  try simp only [Act.put, List.setIfInBounds_toArray, List.set_cons_zero, List.set_cons_succ]
                  refine wpAnyN_take (i := 8) (v := ?_) rfl (by kernel_rfl) (fun _ _ _ h => h) (by rfl) (fun W hW => ?_) hS0 ?_
                  rotate_left
                  · obtain ⟨z0, z1, z2, z3, z4⟩ := hW
                    go_simp
                    try with_reducible rfl
                  try simp only [Act.put, List.setIfInBounds_toArray, List.set_cons_zero, List.set_cons_succ]
                  refine wpAnyN_take (i := 9) (v := ?_) rfl (by kernel_rfl) (fun _ _ _ h => h) (by rfl) (fun W hW => ?_) hS0 ?_
                  rotate_left
                  · obtain ⟨z0, z1, z2, z3, z4⟩ := hW
                    go_simp
                    try with_reducible rfl
                  try simp only [Act.put, List.setIfInBounds_toArray, List.set_cons_zero, List.set_cons_succ]
                  refine wpAnyN_take (i := 10) (v := ?_) rfl (by kernel_rfl) (fun _ _ _ h => h) (by rfl) (fun W hW => ?_) hS0 ?_
                  rotate_left
                  · obtain ⟨z0, z1, z2, z3, z4⟩ := hW
                    go_simp
                    try with_reducible rfl
                  try simp only [Act.put, List.setIfInBounds_toArray, List.set_cons_zero, List.set_cons_succ]
                  refine wpAnyN_take (i := 11) (v := ?_) rfl (by kernel_rfl) (fun _ _ _ h => h) (by rfl) (fun W hW => ?_) hS0 ?_
                  rotate_left
                  · obtain ⟨z0, z1, z2, z3, z4⟩ := hW
                    go_simp
                    try with_reducible rfl
                  try simp only [Act.put, List.setIfInBounds_toArray, List.set_cons_zero, List.set_cons_succ]
                  refine wpAnyN_next (i := 12) rfl (by kernel_rfl) (fun K hK => ?_)
                  go_simp
                  go_wp2_with (go_at_call 32; refine (PC.out _).mono ?_; rintro e w4 ⟨rfl, hb4'⟩)
                  have bm : Below w1.heap.size w1 w4 := (Below.refl _ _).drew.trans hb4'
                  have M4 := Lib.hid (M3.out.next bm)
                  have O4 := Lib.hid (own_next O3.out bm)
                  have M5 := Lib.hid (M4.out.alloc (.cells #[.string y.l, .int .i64 y.a, .int .i64 y.b] 65))
                  have O5 := Lib.hid (O4.out.alloc (.cells #[.string y.l, .int .i64 y.a, .int .i64 y.b] 65))
                  refine hK.out _ _ (fun _ => HS.out _ M4.out.g O4.out (BX.out.next bm)) ?_
                  clear hK K
                  try simp only [Act.put, List.setIfInBounds_toArray, List.set_cons_zero, List.set_cons_succ]
                  refine wpAnyN_next (i := 13) rfl (by kernel_rfl) (fun K hK => ?_)
                  go_simp
                  refine hK.out _ _ (fun _ => HS.out _ M5.out.g O5.out ((BX.out.next bm).alloc _)) ?_
                  clear hK K hS0
                  try simp only [Act.put, List.setIfInBounds_toArray, List.set_cons_zero, List.set_cons_succ]
                  refine wpAnyN_next (i := 14) rfl (by kernel_rfl) (fun K hK => ?_)
                  refine step_push (by rfl) _ _ _ (by rfl) w.heap.size 65 3 32 elem_rule Fac.cells A1 n1 c1 s2.1 (by rfl) M5.out.q _ y #[.string y.l, .int .i64 y.a, .int .i64 y.b] 65 (0, 0) (by rfl) (heap_alloc_new _ _) rfl rfl (one_fac _) (by omega) zk zkm M5.out.e.size ?_
                  intro A8 c8 w8 own8 hg8 old8
                  have M8 := Lib.hid (M5.out.app own8 hg8)
                  have O8 := Lib.hid (O5.out.kept hg8 (own_ne O5.out M5.out.q (by decide)))
                  have d8 := M8.out.g.cell 0
                  have f8 := M8.out.g.frozen
                  have l8 := M8.out.g.lt
                  refine hK.out _ _ (fun _ => HS.out _ M8.out.g O8.out (((BX.out.next bm).alloc _).grown hg8 nbX.out)) ?_
                  clear hK K
                  try simp only [Act.put, List.setIfInBounds_toArray, List.set_cons_zero, List.set_cons_succ]
                  have hS1 := HS.out _ M8.out.g O8.out (((BX.out.next bm).alloc (.cells #[.string y.l, .int .i64 y.a, .int .i64 y.b] 65)).grown hg8 nbX.out)
                  refine wpAnyN_next (i := 15) rfl (by kernel_rfl) (fun K hK => ?_)
                  go_simp
                  refine hK.out _ _ (fun _ => hS1) ?_
                  clear hK K hS1 own8 hg8 old8
                  try simp only [Act.put, List.setIfInBounds_toArray, List.set_cons_zero, List.set_cons_succ]
                  refine wpAnyN_next (i := 16) rfl (by kernel_rfl) (fun K hK => ?_)
                  go_simp
                  refine hK.out _ _ (fun h => absurd h (by decide)) ?_
                  clear hK K
                  refine wpAnyN_done (by kernel_rfl) ?_ _
                  have M6' := Lib.hid (M8.out.put (.slice A8 (n1 + 1) c8))
                  have O6' := Lib.hid (own_kept' (i := 0) O8.out M8.out.g (by decide) (.slice A8 (n1 + 1) c8))
                  have g9 := M6'.out.g.cell 0
                  have l9 := M6'.out.g.lt
                  have um : IntKind.i64.wrap (((n1 + 1 : Nat) : Int) - 1) = (n1 : Int) := by rw [IntWalk.i64_in _ (by omega)]; omega
                  have BN0 := Blk.new (w8.setCell ⟨G, 0, none⟩ (.slice A8 (n1 + 1) c8)) 2 #[.int .i64 (n1 : Int)]
                  rw [show (w8.setCell ⟨G, 0, none⟩ (.slice A8 (n1 + 1) c8)).heap.size = w8.heap.size by simp] at BN0
                  have BN := Lib.hid BN0
                  clear BN0 d8 f8 l8 gw1 gl1
                  go_wp2_with
                    (at_builtin
                     refine wpList_push (w0 := w) rfl _ _ _ rfl w.heap.size 2 1 8 elem_int intE _ i c2 s2.2 rfl (O6'.out.alloc _) w8.heap.size (n1 : Int) #[.int .i64 (n1 : Int)] 2 (0, 0) rfl BN.out rfl rfl (by simp [intE, Value.oneCell']) (by omega) (by omega) (by unfold maxLen; omega) rfl (M6'.out.alloc (.cells #[.int .i64 (n1 : Int)] 2)).e ?_
                     intro A9 c9 w9 own9 hg9 hat9 hb9
                     have M9 := Lib.hid ((M6'.out.alloc (.cells #[.int .i64 (n1 : Int)] 2)).far (O6'.out.alloc _) hg9)
                     have O9 := Lib.hid own9; clear own9)
                  go_roundw
                  case rel => exact ⟨i + 1, A8, n1 + 1, c8, A9, c9, (s2.1 ++ [y], s2.2 ++ [(n1 : Int)]), by go_num, rfl, by omega, by rw [E.out] at Hst2; exact Hst2, by rw [E.out] at HI3; exact HI3, Lib.hid (by rw [List.length_append, hs2.out]; rfl), M9, O9⟩
                  case measure => simp [intOf]; omega
            · have Hp := Lib.hid (show isP x = false by unfold isP; rw [hxl]; rfl)
              obtain ⟨xl, xa, xb⟩ := x
              simp only at hxl hxa hxb
              subst hxl hxa hxb
              obtain ⟨hl0, hl1⟩ := letB_num hcc
              have E := Lib.hid (show mrStep s.2 ⟨⟨#[cc]⟩, 0, 0⟩ s2 = (s2.1, s2.2 ++ [s.2.getD (cc.toNat - 97) 0]) from rfl)
              have hq0 : (0 : Nat) < ByteArray.size ⟨#[cc]⟩ := Nat.zero_lt_one
              have hl2 : (97 : Int) ≤ (((⟨#[cc]⟩ : ByteArray)[0]'hq0).toNat : Int) := hl0
              have hl3 : (((⟨#[cc]⟩ : ByteArray)[0]'hq0).toNat : Int) ≤ 100 := hl1
              go_wp2_with fail
              refine (isPair_any ⟨⟨#[cc]⟩, 0, 0⟩ false _ Hp.out).mono ?_
              rintro e w1 ⟨rfl, hb1'⟩
              have M3 := Lib.hid (Mx.out.next hb1')
              have O3 := Lib.hid (own_next Ox.out hb1')
              have BX := Lib.hid ((Blk.new wr 65 #[.string ⟨#[cc]⟩, .int .i64 0, .int .i64 0]).next hb1')
              obtain ⟨d0, d1, d2⟩ := BX.out.three
              have lx := BX.out.lt
              have s9 := M3.out.s.cell (((⟨#[cc]⟩ : ByteArray)[0]'hq0).toNat - 97)
              rw [intA_at s.2 (by rw [HI.out.st]; omega)] at s9
              have e9 : s.2.getD (((⟨#[cc]⟩ : ByteArray)[0]'hq0).toNat - 97) 0 = s.2.getD (cc.toNat - 97) 0 := rfl
              rw [e9] at s9
              clear e9
              have ls9 := M3.out.s.lt
              generalize s.2.getD (cc.toNat - 97) 0 = sv at *
              go_wp2_with
                (at_builtin
                 refine wpList_push (w0 := w) rfl _ _ _ rfl w.heap.size 2 1 8 elem_int intE _ i c2 s2.2 rfl (O3.out.alloc _) w1.heap.size sv #[.int .i64 sv] 2 (0, 0) rfl (heap_alloc_new _ _) rfl rfl (by simp [intE, Value.oneCell']) (by omega) (by omega) (by unfold maxLen; omega) rfl (M3.out.alloc (.cells #[.int .i64 sv] 2)).e ?_
                 intro A9 c9 w9 own9 hg9 hat9 hb9
                 have M9 := Lib.hid ((M3.out.alloc (.cells #[.int .i64 sv] 2)).far (O3.out.alloc _) hg9)
                 have O9 := Lib.hid own9; clear own9)
              go_roundw
              case rel => exact ⟨i + 1, A1, n1, c1, A9, c9, (s2.1, s2.2 ++ [sv]), by go_num, rfl, by omega, by rw [E.out] at Hst2; exact Hst2, by rw [E.out] at HI3; exact HI3, hs2, M9, O9⟩
              case measure => simp [intOf]; omega
          · have hin' : i = n := by omega
            have hQ := HQ.out
            rw [hin', show rs.take n = rs from List.take_of_length_le (by rw [hl.out]; omega)] at hQ
            have HS2 := Lib.hid (show mapS2 rs ws = s2 by unfold mapS2; rw [HS1.out]; exact hQ)
            have HF := show mapF rs ws = (if 400 < s2.1.length then [] else if s2.2.length = 0 ∨ lastI s2.2 < 0 then [] else limF (mapT rs ws)) by unfold mapF; rw [HMO.out, HS2.out]; rfl
            have HC := show mapC rs ws = (if 400 < s2.1.length then 3 else if s2.2.length = 0 ∨ lastI s2.2 < 0 then 0 else limC (mapT rs ws)) by unfold mapC; rw [HMO.out, HS2.out]; rfl
            have HT := show mapT rs ws = trimL (s2.1.take ((lastI s2.2).toNat + 1)) by unfold mapT; rw [HS2.out]
            rw [hs2.out, HI2.out.1.st, hin'] at HF HC
            clear hQ HQ HS2
            have HF' := Lib.hid HF
            have HC' := Lib.hid HC
            have HT' := Lib.hid HT
            have o1 := M1.out.o.cell 0
            have f1 := M1.out.o.frozen
            have l1 := M1.out.o.lt
            have g1 := M1.out.g.cell 0
            have lg1 := M1.out.g.lt
            have shut : ∀ w4, MpW w w4 G S (.slice A n c) (.slice A1 n1 c1) A1 n1 c1 s2.1 s.2 →
                (w4.cell? ⟨w.heap.size + 1, 0, none⟩ = some (.slice none 0 0)) ∧ (∀ i, w4.frozen? ⟨w.heap.size + 1, i, none⟩ = false) ∧ w.heap.size + 1 < w4.heap.size ∧
                (w4.setCell ⟨w.heap.size + 1, 0, none⟩ (.slice none 0 0)).cell? ⟨w.heap.size + 1, 0, none⟩ = some (.slice none 0 0) ∧ Below w.heap.size w (w4.setCell ⟨w.heap.size + 1, 0, none⟩ (.slice none 0 0)) := fun w4 M => by
              refine ⟨M.o.cell 0, M.o.frozen, M.o.lt, ?_, M.e.setCell (by simp) _⟩
              rw [(M.o.set_ 0 (.slice none 0 0)).cell 0]; rfl
            have Shut_ := Lib.hid shut
            clear shut HF HC HT hin'
            by_cases hbig : 400 < n1
            · have eT := Lib.hid (show mapF rs ws = [] by rw [HF'.out, if_pos hbig])
              have eC := Lib.hid (show mapC rs ws = 3 by rw [HC'.out, if_pos hbig])
              obtain ⟨_, _, _, x5, b5'⟩ := Shut_.out wr M1.out
              go_wp2_with fail
              exact bodyPost_ret (v := .tuple #[.agg #[.slice none 0 0], .int .i64 3]) (by simp [results, Try.results10, go_sem, x5]) rfl ⟨none, 0, by rw [eT.out, eC.out]; rfl, by rw [eT.out]; exact World.ownsRow_nil _ _ _ _, b5'⟩
            · by_cases hn0 : n = 0
              · have eT := Lib.hid (show mapF rs ws = [] by rw [HF'.out, if_neg hbig, if_pos (.inl hn0)])
                have eC := Lib.hid (show mapC rs ws = 0 by rw [HC'.out, if_neg hbig, if_pos (.inl hn0)])
                obtain ⟨_, _, _, x5, b5'⟩ := Shut_.out wr M1.out
                have i00 : i = 0 := by omega
                subst i00
                go_wp2_with fail
                exact bodyPost_ret (v := .tuple #[.agg #[.slice none 0 0], .int .i64 0]) (by simp [results, Try.results10, go_sem, x5]) rfl ⟨none, 0, by rw [eT.out, eC.out]; rfl, by rw [eT.out]; exact World.ownsRow_nil _ _ _ _, b5'⟩
              · have hi0 : ((i : Int) == 0) = false := by simp; omega
                have hlb := Lib.hid (show -1 ≤ lastI s2.2 ∧ lastI s2.2 < (n1 : Int) by
                  have := HI2.out.1.b (i - 1) (by omega)
                  rw [hs2.out] at this
                  unfold lastI; rw [HI2.out.1.st]; exact this)
                have hst := Lib.hid HI2.out.1.st
                have RS := Lib.hid (Rd.of_own (enc := intE) (fun x _ => rfl) hst.out O1.out)
                have LC := Lib.hid (fun W (h : Below wr.heap.size wr W) => last_any A2 i c2 s2.2 W (by omega) (RS.out.next h))
                generalize lastI s2.2 = sl at *
                obtain ⟨hlb0, hlb1⟩ := hlb.out
                by_cases hsl0 : sl < 0
                · have eT := Lib.hid (show mapF rs ws = [] by rw [HF'.out, if_neg hbig, if_pos (.inr hsl0)])
                  have eC := Lib.hid (show mapC rs ws = 0 by rw [HC'.out, if_neg hbig, if_pos (.inr hsl0)])
                  go_wp2_with fail
                  refine (LC.out _ (Below.refl _ _)).mono ?_
                  rintro e w4 ⟨rfl, hb4'⟩
                  obtain ⟨o4, f4, l4, x5, b5'⟩ := Shut_.out w4 (M1.out.next hb4')
                  go_wp2_with fail
                  exact bodyPost_ret (v := .tuple #[.agg #[.slice none 0 0], .int .i64 0]) (by simp [results, Try.results10, go_sem, x5]) rfl ⟨none, 0, by rw [eT.out, eC.out]; rfl, by rw [eT.out]; exact World.ownsRow_nil _ _ _ _, b5'⟩
                · have eT0 := Lib.hid (show mapF rs ws = limF (trimL (s2.1.take (sl.toNat + 1))) by rw [HF'.out, if_neg hbig, if_neg (by omega), HT'.out])
                  have eC0 := Lib.hid (show mapC rs ws = limC (trimL (s2.1.take (sl.toNat + 1))) by rw [HC'.out, if_neg hbig, if_neg (by omega), HT'.out])
                  have hwt := Lib.hid (wf_take HI2.out.1.wf (sl.toNat + 1))
                  have hsz := Lib.hid (trimL_sz hwt.out)
                  go_wp2_with fail
                  refine (LC.out _ (Below.refl _ _)).mono ?_
                  rintro e w4 ⟨rfl, hb4'⟩
                  have M4 := Lib.hid (M1.out.next hb4')
                  have g4 := M4.out.g.cell 0
                  have l4 := M4.out.g.lt
                  clear o1 f1 l1 g1 lg1
                  go_wp2_with fail
                  have M3 := Lib.hid M4.out.drew
                  have LC2 := Lib.hid (fun W (h : Below w4.heap.size w4 W) => LC.out W (hb4'.trans (h.mono hb4'.size)))
                  have RO := Lib.hid (Rd.of_own (fun x _ => fac_len x) hs2.out M4.out.q)
                  have RT := Lib.hid (rd_take RO.out (k := sl.toNat + 1) (by omega))
                  have u1 : IntKind.i64.wrap (sl + 1) = sl + 1 := IntWalk.i64_in _ (by omega)
                  have j0 : (0 : Int) ≤ sl + 1 := by omega
                  have hc1 : n1 ≤ c1 := by
                    obtain ⟨g1', cp1, hv1, _, _⟩ := M4.out.q.form (by omega)
                    have h2 := M4.out.q.2
                    rcases h2 with ⟨hnil, hz⟩ | ⟨g2, cap2, cur2, hv2, _, _, h3, _⟩
                    · omega
                    · injection hv2 with _ _ h4; omega
                  have j1 : sl + 1 ≤ (c1 : Int) := by omega
                  have jn : (sl + 1).toNat = sl.toNat + 1 := by omega
                  have TC := Lib.hid (fun W (h : Below w4.heap.size w4 W) => trimmed_any A1 (sl.toNat + 1) c1 (s2.1.take (sl.toNat + 1)) W (by omega) (RT.out.next h) hwt.out)
                  have htl : (trimL (s2.1.take (sl.toNat + 1))).length ≤ 9000 := by
                    have h1 := trimL_le (s2.1.take (sl.toNat + 1))
                    rw [List.length_take, hs2.out] at h1
                    omega
                  have Htl := Lib.hid htl
                  unfold RetG at TC
                  have hok5 := Lib.hid (fun f (hf : f ∈ trimL (s2.1.take (sl.toNat + 1))) => show f.l.size ≤ maxLen from by have := hsz.out f hf; unfold maxLen; omega)
                  generalize trimL (s2.1.take (sl.toNat + 1)) = T at *
                  obtain ⟨L, hL⟩ : ∃ L, T.length = L := ⟨_, rfl⟩
                  rw [hL] at TC htl
                  have HL := Lib.hid hL
                  have OC := Lib.hid (fun (A5 : Option Addr) (c5 : Nat) W (h : Rd W W.heap.size A5 L 3 Fac.cells T) => orLimit_any A5 L c5 T W (by omega) h hok5.out)
                  clear hL hsl0 hlb0 hlb1
                  rcases hb : (gOk T).isSome with _ | _
                  all_goals
                    have Hb := Lib.hid hb
                    rw [hb] at OC
                    have eT : mapF rs ws = _ := eT0.out
                    have eC : mapC rs ws = _ := eC0.out
                    unfold limF at eT
                    unfold limC at eC
                    rw [hb] at eT eC
                    have HeT := Lib.hid eT
                    have HeC := Lib.hid eC
                    unfold orLim at OC
                    simp only [cond_false, cond_true] at OC
                    clear hb eT eC
                    go_region_law
                      (first
                        | (go_simp
                           go_wp2_with (go_at_call 34; refine (OC.out A5 c5 _ R5.out).mono ?_; rintro e w7 ⟨rfl, hb7⟩)
                           have M7 := Lib.hid (M6'.out.next hb7)
                           have O7 := Lib.hid (own_next O6.out hb7)
                           have o7 := M7.out.o.cell 0
                           have f7 := M7.out.o.frozen
                           have l7 := M7.out.o.lt)
                        | (go_simp
                           go_wp2_with (go_at_call 35; refine (TC.out _ b5x.out).mono ?_; rintro e w6' ⟨A5, c5, rfl, own5, hb6'⟩)
                           have M6' := Lib.hid (M5.out.next hb6')
                           have R5 := Lib.hid (Rd.of_own (fun y _ => fac_len y) HL.out own5)
                           have O6 := Lib.hid (own5.mono M5.out.e.size)
                           clear own5)
                        | (go_simp
                           go_wp2_with (go_at_call 33; refine (LC2.out _ (Below.refl _ _).drew).mono ?_; rintro e w5' ⟨rfl, hb5'⟩)
                           have b5x := Lib.hid (show Below w4.heap.size w4 w5' from (Below.refl _ _).drew.trans hb5')
                           have M5 := Lib.hid (M4.out.next b5x.out)
                           have g5 := M5.out.g.cell 0
                           have l5 := M5.out.g.lt))
                    all_goals
                      first
                        | (have B5 := M7.out.o.set_ 0 (.slice none 0 0)
                           have x5 : (w7.setCell ⟨w.heap.size + 1, 0, none⟩ (.slice none 0 0)).cell? ⟨w.heap.size + 1, 0, none⟩ = some (.slice none 0 0) := by rw [B5.cell 0]; rfl
                           have b5' := M7.out.e.setCell (p := ⟨w.heap.size + 1, 0, none⟩) (by simp) (.slice none 0 0)
                           clear B5
                           go_wp2_with fail
                           exact bodyPost_ret (v := .tuple #[.agg #[.slice none 0 0], .int .i64 3]) (by simp [results, Try.results10, go_sem, x5]) rfl ⟨none, 0, by rw [HeT.out, HeC.out]; rfl, by rw [HeT.out]; exact World.ownsRow_nil _ _ _ _, b5'⟩)
                        | (have B5 := M7.out.o.set_ 0 (.slice A5 L c5)
                           have x5 : (w7.setCell ⟨w.heap.size + 1, 0, none⟩ (.slice A5 L c5)).cell? ⟨w.heap.size + 1, 0, none⟩ = some (.slice A5 L c5) := by rw [B5.cell 0]; rfl
                           have b5' := M7.out.e.setCell (p := ⟨w.heap.size + 1, 0, none⟩) (by simp) (.slice A5 L c5)
                           have O8 := Lib.hid (own_kept' (i := 0) O7.out M7.out.o (by decide) (.slice A5 L c5))
                           clear B5
                           go_wp2_with fail
                           exact bodyPost_ret (v := .tuple #[.agg #[.slice A5 L c5], .int .i64 0]) (by simp [results, Try.results10, go_sem, x5]) rfl ⟨A5, c5, by rw [HeT.out, HeC.out]; simp [HL.out], by rw [HeT.out]; simpa [HL.out] using O8.out, b5'⟩)
end Go.Proofs.Ytfanphhlagjkdaa


/-
  How a law's statement follows from its walk: the arguments opened to plain data; behind the walk they read as they did.
-/
namespace Go.Proofs.Ytfanphhlagjkdaa
open Go.ChangeShapes Go.WideShapes Go.ChangeAt Go.RowKit Go.Deep

theorem own : ownKnob Try.prog.godebug = none := by kernel_rfl
theorem laidOut : laidOutB Try.prog = true := by kernel_rfl
theorem mapsRowed' : mapsRowed Try.prog = true := by kernel_rfl
theorem heard' : Try.prog.stopsHeard = true := by kernel_rfl
theorem mayEnter' : Try.prog.mayEnter = true := by kernel_rfl
theorem lifts' : (Rows.fnMappedRow.lifted == Try.prog.liftsFinal) = true := by kernel_rfl
theorem make' : (Try.prog.make == some Rows.fnMappedRow.make) = true := by kernel_rfl
theorem plainKeys' : (Rows.fnMappedRow.plainKeys == Try.prog.plainKeys) = true := by kernel_rfl
/-- a row's closed facts, one by one: so that the kernel gives its memory back behind each -/
theorem joined_mk {P : Program} {f : FuncId} {fn : Func} {s : ChangeSpec} {c : OpenClaim} (h1 : c.wf (OpenSpec.ofChange s) = true) (h2 : laidOutB P = true) (h3 : mapsRowed P = true)
    (h4 : (fn.params.all (P.readableRec ·) && namedTie P c.named s.vars && (c.stops == []) && (P.stops == []) && (c.knobs == []) && (P.stopKnobs == [])) = true)
    (h5 : (c.inPlace == P.inPlace f) = true) (h6 : (c.unfollowed == P.unfollowed f) = true) (h7 : (c.recurses == P.recurses f) = true) (h8 : (c.named == P.varsNamed f) = true)
    (h9 : ((c.maps == (fn.params.toList ++ s.plain.varTypes P).any (P.mapsRec ·)) && (c.ifaces == (fn.params.toList ++ s.plain.varTypes P).any (P.ifacesRec ·)) && (c.mapsOut == P.mapsAmong fn.resultTypes.toList) &&
      (c.loops == (fn.params.toList ++ s.plain.varTypes P).any (P.loopsFrom ·)) && (c.wideKeys == (fn.params.toList ++ s.plain.varTypes P ++ fn.resultTypes.toList).any (P.wideKeysFrom ·)) &&
      s.vars.all (P.varReadable ·) && fn.resultTypes.all (fun t => P.readableRec t && decide (t < P.types.size)) && (c.ifacesOut == fn.resultTypes.toList.any (P.ifacesRec ·)) && (c.loopsOut == fn.resultTypes.toList.any (P.loopsFrom ·))) = true)
    (h10 : (c.plainKeys == P.plainKeys) = true) (h11 : c.shortTexts.isNone = true) (h12 : P.stopsHeard = true) (h13 : P.mayEnter = true) (h14 : (c.lifted == P.liftsFinal) = true) (h15 : (P.make == some c.make) = true)
    (h16 : ((c.kinds == (if c.domain.isEmpty then [] else fn.params.toList.map fun t => match P.underlying t with | some (.int k) => some k | _ => none)) && (c.pinned == c.pinnedBy) &&
      (c.veiled == (fn.params.toList ++ s.plain.varTypes P ++ fn.resultTypes.toList).any (P.veiledRec ·)) && c.veiledFits P fn.params.toList (fn.params.toList ++ s.plain.varTypes P ++ fn.resultTypes.toList)) = true) :
    joinedFacts P f fn s c = true := by
  simp only [Bool.and_eq_true] at h4 h9 h16
  simp only [joinedFacts, Bool.and_eq_true]
  simp only [h1, h2, h3, h4, h5, h6, h7, h8, h9, h10, h11, h12, h13, h14, h15, h16, and_self]
  exact ⟨⟨⟨⟨trivial, h16.1.1.1⟩, trivial⟩, trivial⟩, trivial⟩

section
variable {H : Type} {enc : TypeId × Value → H} {P : Program}
/-- the arguments read as they did, where nothing old has turned -/
theorem args_below (hl : laidOutB P = true) {W W' : World} (hb : Below W.heap.size W W') : ∀ {ts : List TypeId} {vs : List Value} {ds : List (DataW H)} {ps : List MemPlace},
    (∀ t ∈ ts, P.readableRec t = true ∧ t < P.types.size) → DataW.TrodAll enc P W 0 (fun _ => true) true ts vs ds ps → (∀ p ∈ ps, p.block < W.heap.size) →
    ∀ sp : Nat → Bool, (∀ p ∈ ps, sp p.block = true) → DataW.TrodAll enc P W' 0 sp true ts vs ds ps
  | [], [], [], _, _, h, _, _, _ => h
  | t :: ts, v :: vs, d :: ds, ps, ht, h, hlt, sp, hsp => by
    obtain ⟨p, q, h1, h2, rfl⟩ := h
    obtain ⟨hr, hrow⟩ := ht t (by simp)
    exact ⟨p, q, WideElems.Trod_stays hl hr hrow h1 (fun x hx => hb.same (hlt x (by simp [hx]))) (fun x hx => hsp x (by simp [hx])),
      args_below hl hb (fun t' h' => ht t' (by simp [h'])) h2 (fun x hx => hlt x (by simp [hx])) sp (fun x hx => hsp x (by simp [hx])), rfl⟩
  | [], _ :: _, _, _, _, h, _, _, _ => by cases h
  | [], [], _ :: _, _, _, h, _, _, _ => by cases h
  | _ :: _, [], _, _, _, h, _, _, _ => by cases h
  | _ :: _, _ :: _, [], _, _, h, _, _, _ => by cases h

/-- a law's last step: it has returned true, and nothing old has turned -/
theorem law_post {f : Func} {s : ChangeSpec} {W W' : World} {args : Array Value} {ds gs : List (DataW H)} {before : List MemPlace} (hl : laidOutB P = true)
    (hW : DataW.Whole enc P f.params.toList s.vars false W args.toList ds gs before) (hv : s.vars = []) (b : TypeId) (hbool : P.underlying b = some .bool) (hrt : f.resultTypes = #[b])
    (hts : ∀ t ∈ f.params.toList, P.readableRec t = true ∧ t < P.types.size)
    (hsp : s.fn H (ds ++ gs) = { results := [.lit (.bool true)], args := ds }) (hb : Below W.heap.size W W') : s.post enc P f false true false false W args (.bool true) W' := by
  have hW0 := hW
  have hlt : ∀ p ∈ before, p.block < W.heap.size := fun p hp => hW.lt p hp
  obtain ⟨p, q, hA, hV, hpq, hz, hn⟩ := hW
  rw [hv] at hV
  obtain ⟨hg, hq⟩ := trodVars_none hV
  subst hg hq
  rw [List.append_nil] at hpq
  subst hpq
  have hargs := args_below hl hb hts hA hlt
  refine ⟨ds, [], before, [], before, [], hW0, ?_, ?_, ?_, World.keptBut_mono (fun p hp => ⟨hp, Or.inr (Or.inl hp)⟩) (hb.frame (· ∈ before)), fun h => by cases h⟩
  · rw [hsp, hrt]
    exact trodAll_mk1 (shut_bool hbool _)
  · rw [hsp]
    exact hargs _ (fun p hp => by simpa using hlt p hp)
  · rw [hsp, hv]
    exact rfl
end

def I64 (x : Int) : Prop := -9223372036854775808 ≤ x ∧ x ≤ 9223372036854775807
def Fac.ok (f : Fac) : Prop := f.l.size ≤ maxLen ∧ I64 f.a ∧ I64 f.b

theorem cell_spot {w : World} {a : Addr} {v : Value} (h : w.cell? a = some v) : a = ⟨a.block, a.off, none⟩ := by
  obtain ⟨b, o, s⟩ := a
  cases s with
  | none => rfl
  | some x =>
    exfalso
    unfold World.cell? at h
    split at h <;> simp at h

section
variable {H : Type} {enc : TypeId × Value → H} {P : Program} {w : World} {base : Nat} {spare : Nat → Bool} {held : Bool}
/-- a list of structs of a string and two numbers, as it reads -/
theorem facs_of_trod {t e : TypeId} {f0 f1 f2 : Field} {fuel : Nat} {cs0 : List Value} {x0 : DataW H × List MemPlace} (ht : P.underlying t = some (.slice e)) (he : P.underlying e = some (.struct #[f0, f1, f2]))
    (hone : oneCellFields P #[f0, f1, f2] = true) (hC : P.cellsOf e = 3) (t0 : P.underlying f0.type = some .string) (t1 : P.underlying f1.type = some (.int .i64)) (t2 : P.underlying f2.type = some (.int .i64))
    (hf : DataW.trod enc P w base spare held fuel t cs0 = some x0) :
    ∃ A n c fs, cs0 = [.slice A n c] ∧ n ≤ maxLen ∧ Rd w w.heap.size A n 3 Fac.cells fs ∧ ∀ f ∈ fs, Fac.ok f := by
  rcases open_slice ht hf with ⟨hcs, hx⟩ | ⟨a, len, cap, m, n, D, Pl, hcs, _, hl, hm, hmm, hx, hi⟩
  · exact ⟨none, 0, 0, [], hcs, by omega, Rd.none_, by simp⟩
  · subst hcs
    have hlm : len ≤ m := by rw [hmm]; split <;> omega
    have key : ∀ i, i < len → ∃ f : Fac, Fac.ok f ∧ w.cell? (a.add (i * 3)) = some (.string f.l) ∧ w.cell? ((a.add (i * 3)).add 1) = some (.int .i64 f.a) ∧ w.cell? ((a.add (i * 3)).add 2) = some (.int .i64 f.b) := by
      intro i hil
      obtain ⟨cs', hc, ht'⟩ := hi i (by omega)
      rw [hC] at hc
      obtain ⟨ys, n', hn', hy, hlen, hyl, hfld⟩ := DataW.trod_struct he ht'
      obtain ⟨_, hcl, hat⟩ := World.cells?_some hc
      obtain ⟨o0, k0⟩ := hone_of hone 0 f0 rfl
      obtain ⟨o1, k1⟩ := hone_of hone 1 f1 rfl
      obtain ⟨o2, k2⟩ := hone_of hone 2 f2 rfl
      rw [hC] at hlen
      match cs', hlen with
      | [x0, x1, x2], _ =>
        have q0 := hfld 0 f0 rfl
        have q1 := hfld 1 f1 rfl
        have q2 := hfld 2 f2 rfl
        match ys, hyl with
        | [y0, y1, y2], _ =>
          simp only [o0, k0, o1, k1, o2, k2] at q0 q1 q2
          obtain ⟨s, e0, _, hs⟩ := DataW.trod_string t0 (x := y0) (by simpa using q0)
          obtain ⟨z1, e1, _, w1⟩ := DataW.trod_int t1 (x := y1) (by simpa using q1)
          obtain ⟨z2, e2, _, w2⟩ := DataW.trod_int t2 (x := y2) (by simpa using q2)
          simp at e0 e1 e2
          subst e0 e1 e2
          refine ⟨⟨s, z1, z2⟩, ⟨hs, ?_, ?_⟩, ?_, ?_, ?_⟩
          · simpa [I64, Lit.wf, IntKind.min, IntKind.max, IntKind.signed, IntKind.bits] using w1
          · simpa [I64, Lit.wf, IntKind.min, IntKind.max, IntKind.signed, IntKind.bits] using w2
          · simpa [Addr.add] using hat 0 (by omega)
          · simpa using hat 1 (by omega)
          · simpa using hat 2 (by omega)
    obtain ⟨F, hF⟩ := choose_lt (α := Fac) (p := fun i f => Fac.ok f ∧ w.cell? (a.add (i * 3)) = some (.string f.l) ∧ w.cell? ((a.add (i * 3)).add 1) = some (.int .i64 f.a) ∧ w.cell? ((a.add (i * 3)).add 2) = some (.int .i64 f.b)) key
    refine ⟨some a, len, cap, (List.range len).map F, rfl, by omega, ⟨by simp, fun hp => ?_⟩, ?_⟩
    · have h0 := (hF 0 hp).2.1
      have ha : a = ⟨a.block, a.off, none⟩ := by
        have : a.add (0 * 3) = a := by simp [Addr.add]
        rw [this] at h0
        exact cell_spot h0
      refine ⟨a.block, a.off, by rw [← ha], ?_, ?_⟩
      · have := World.block_lt_of_cell? w _ h0
        simpa [Addr.add] using this
      · intro k x hx j u hu
        have hk : k < len := by
          have := (List.getElem?_eq_some_iff.1 hx).1
          simpa using this
        obtain rfl : F k = x := by simpa [hk] using hx
        obtain ⟨_, g0, g1, g2⟩ := hF k hk
        rw [ha] at g0 g1 g2
        simp only [Addr.add_lit] at g0 g1 g2
        rcases j with _ | _ | _ | j
        · simp [Fac.cells] at hu; subst hu; simpa using g0
        · simp [Fac.cells] at hu; subst hu; simpa using g1
        · simp [Fac.cells] at hu; subst hu; simpa using g2
        · simp [Fac.cells] at hu
    · intro f hf
      simp only [List.mem_map, List.mem_range] at hf
      obtain ⟨i, hil, rfl⟩ := hf
      exact (hF i hil).1
/-- an argument that is a list of structs of a string and two numbers -/
theorem open_facs {t e : TypeId} {f0 f1 f2 : Field} {r : Reach} {b0 : Nat} {v : Value} {d : DataW H} {p : List MemPlace} (ht : P.underlying t = some (.slice e)) (he : P.underlying e = some (.struct #[f0, f1, f2]))
    (hone : oneCellFields P #[f0, f1, f2] = true) (hC : P.cellsOf e = 3) (t0 : P.underlying f0.type = some .string) (t1 : P.underlying f1.type = some (.int .i64)) (t2 : P.underlying f2.type = some (.int .i64))
    (hv : Value.okWide P w r b0 t v) (h : DataW.Trod enc P w base spare held t v d p) :
    ∃ A n c fs, v = .slice A n c ∧ n ≤ maxLen ∧ Rd w w.heap.size A n 3 Fac.cells fs ∧ ∀ f ∈ fs, Fac.ok f := by
  obtain ⟨a0, len, cap, rfl⟩ := okWide_slice ht hv
  obtain ⟨fuel, hf⟩ := h
  simp only [Value.cells] at hf
  obtain ⟨A, n, c, fs, hcs, h2⟩ := facs_of_trod ht he hone hC t0 t1 t2 hf
  exact ⟨A, n, c, fs, by simpa using hcs, h2⟩
/-- an argument that is a grammar: a struct of one list -/
theorem open_grammar {g e : TypeId} {f f0 f1 f2 : Field} {r : Reach} {b0 : Nat} {v : Value} {d : DataW H} {p : List MemPlace} (hg : P.underlying g = some (.struct #[f])) (hone1 : oneCellFields P #[f] = true) (hC1 : P.cellsOf g = 1)
    (ht : P.underlying f.type = some (.slice e)) (he : P.underlying e = some (.struct #[f0, f1, f2]))
    (hone : oneCellFields P #[f0, f1, f2] = true) (hC : P.cellsOf e = 3) (t0 : P.underlying f0.type = some .string) (t1 : P.underlying f1.type = some (.int .i64)) (t2 : P.underlying f2.type = some (.int .i64))
    (hv : Value.okWide P w r b0 g v) (h : DataW.Trod enc P w base spare held g v d p) :
    ∃ A n c fs, v = .agg #[.slice A n c] ∧ n ≤ maxLen ∧ Rd w w.heap.size A n 3 Fac.cells fs ∧ ∀ f ∈ fs, Fac.ok f := by
  obtain ⟨cs, rfl, hsz⟩ := okWide_struct hg hv
  obtain ⟨l⟩ := cs
  match l, hsz.trans hC1 with
  | [x0], _ =>
    obtain ⟨fuel, hf⟩ := h
    obtain ⟨ys, n', hn', hy, hlen, hyl, hfld⟩ := DataW.trod_struct hg hf
    obtain ⟨o0, k0⟩ := hone_of hone1 0 f rfl
    match ys, hyl with
    | [y0], _ =>
      have q0 := hfld 0 f rfl
      simp only [o0, k0] at q0
      have q1 : DataW.trod enc P w base spare held n' f.type [x0] = some y0 := by simpa [Value.cells] using q0
      obtain ⟨A, n, c, fs, hcs, h2⟩ := facs_of_trod ht he hone hC t0 t1 t2 q1
      obtain rfl : x0 = .slice A n c := by simpa using hcs
      exact ⟨A, n, c, fs, rfl, h2⟩
/-- an argument that is a list of numbers -/
theorem open_nums {t e : TypeId} {k : IntKind} {r : Reach} {b0 : Nat} {v : Value} {d : DataW H} {p : List MemPlace} (ht : P.underlying t = some (.slice e)) (he : P.underlying e = some (.int k)) (hC : P.cellsOf e = 1)
    (hv : Value.okWide P w r b0 t v) (h : DataW.Trod enc P w base spare held t v d p) :
    ∃ A n c zs, v = .slice A n c ∧ n ≤ maxLen ∧ Rd w w.heap.size A n 1 (fun z => [.int k z]) zs ∧ ∀ z ∈ zs, (Lit.int k z).wf = true := by
  obtain ⟨a0, len0, cap0, rfl⟩ := okWide_slice ht hv
  obtain ⟨fuel, hf⟩ := h
  simp only [Value.cells] at hf
  rcases open_ints ht he hC hf with ⟨hcs, hx⟩ | ⟨a, len, cap, zs, hcs, _, hl, hm, hz, hx, hi, hw⟩
  · exact ⟨none, 0, 0, [], by simpa using hcs, by omega, Rd.none_, by simp⟩
  · have hlz : len ≤ zs.length := by rw [hz]; split <;> omega
    refine ⟨some a, len, cap, zs.take len, by simpa using hcs, by omega, ⟨by simp; omega, fun hp => ?_⟩, fun z h2 => hw z (List.mem_of_mem_take h2)⟩
    have h0 := hi 0 (by omega)
    have ha : a = ⟨a.block, a.off, none⟩ := by
      have : a.add 0 = a := by simp [Addr.add]
      rw [this] at h0
      exact cell_spot h0
    refine ⟨a.block, a.off, by rw [← ha], ?_, fun i x hx j u hu => ?_⟩
    · have := World.block_lt_of_cell? w _ h0
      simpa [Addr.add] using this
    · have hil : i < len := by have := (List.getElem?_eq_some_iff.1 hx).1; simp at this; omega
      rw [List.getElem?_take_of_lt hil] at hx
      have g0 := hi i (by omega)
      rw [ha, Addr.add_lit, List.getD_eq_getElem?_getD, hx] at g0
      rcases j with _ | j
      · simp at hu; subst hu; simpa using g0
      · simp at hu
theorem open_bytes {t e : TypeId} {r : Reach} {b0 : Nat} {v : Value} {d : DataW H} {p : List MemPlace} (ht : P.underlying t = some (.slice e)) (he : P.underlying e = some (.int .u8)) (hC : P.cellsOf e = 1)
    (hv : Value.okWide P w r b0 t v) (h : DataW.Trod enc P w base spare held t v d p) :
    ∃ A n c zs, v = .slice A n c ∧ n ≤ maxLen ∧ Rd w w.heap.size A n 1 (fun z => [.int .u8 z]) zs ∧ ∀ z ∈ zs, 0 ≤ z ∧ z < 256 := by
  obtain ⟨A, n, c, zs, h1, h2, h3, h4⟩ := open_nums ht he hC hv h
  refine ⟨A, n, c, zs, h1, h2, h3, fun z hz => ?_⟩
  have := h4 z hz
  simp [Lit.wf, IntKind.min, IntKind.max, IntKind.signed, IntKind.bits] at this
  omega
theorem open_i64s {t e : TypeId} {r : Reach} {b0 : Nat} {v : Value} {d : DataW H} {p : List MemPlace} (ht : P.underlying t = some (.slice e)) (he : P.underlying e = some (.int .i64)) (hC : P.cellsOf e = 1)
    (hv : Value.okWide P w r b0 t v) (h : DataW.Trod enc P w base spare held t v d p) :
    ∃ A n c zs, v = .slice A n c ∧ n ≤ maxLen ∧ Rd w w.heap.size A n 1 (fun z => [.int .i64 z]) zs ∧ ∀ z ∈ zs, I64 z := by
  obtain ⟨A, n, c, zs, h1, h2, h3, h4⟩ := open_nums ht he hC hv h
  refine ⟨A, n, c, zs, h1, h2, h3, fun z hz => ?_⟩
  simpa [I64, Lit.wf, IntKind.min, IntKind.max, IntKind.signed, IntKind.bits] using h4 z hz
theorem open_i64 {t : TypeId} {r : Reach} {b0 : Nat} {v : Value} {d : DataW H} {p : List MemPlace} (ht : P.underlying t = some (.int .i64)) (hv : Value.okWide P w r b0 t v) (h : DataW.Trod enc P w base spare held t v d p) :
    ∃ z, v = .int .i64 z ∧ d = .lit (.int .i64 z) ∧ p = [] ∧ I64 z := by
  obtain ⟨z, h1, h2, h3, h4⟩ := Go.ChangeShapes.open_int ht hv h
  exact ⟨z, h1, h2, h3, by simpa [I64, Lit.wf, IntKind.min, IntKind.max, IntKind.signed, IntKind.bits] using h4⟩
/-- an argument that is a list of texts -/
theorem open_strs {t e : TypeId} {r : Reach} {b0 : Nat} {v : Value} {d : DataW H} {p : List MemPlace} (ht : P.underlying t = some (.slice e)) (he : P.underlying e = some .string) (hC : P.cellsOf e = 1)
    (hv : Value.okWide P w r b0 t v) (h : DataW.Trod enc P w base spare held t v d p) :
    ∃ A n c ss, v = .slice A n c ∧ n ≤ maxLen ∧ Rd w w.heap.size A n 1 (fun s => [.string s]) ss ∧ ∀ s ∈ ss, s.size ≤ maxLen := by
  obtain ⟨a0, len0, cap0, rfl⟩ := okWide_slice ht hv
  obtain ⟨fuel, hf⟩ := h
  simp only [Value.cells] at hf
  rcases open_strings ht he hC hf with ⟨hcs, hx⟩ | ⟨a, len, cap, zs, hcs, _, hl, hm, hz, hx, hi, hw⟩
  · exact ⟨none, 0, 0, [], by simpa using hcs, by omega, Rd.none_, by simp⟩
  · have hlz : len ≤ zs.length := by rw [hz]; split <;> omega
    refine ⟨some a, len, cap, zs.take len, by simpa using hcs, by omega, ⟨by simp; omega, fun hp => ?_⟩, fun z h2 => hw z (List.mem_of_mem_take h2)⟩
    have h0 := hi 0 (by omega)
    have ha : a = ⟨a.block, a.off, none⟩ := by
      have : a.add 0 = a := by simp [Addr.add]
      rw [this] at h0
      exact cell_spot h0
    refine ⟨a.block, a.off, by rw [← ha], ?_, fun i x hx j u hu => ?_⟩
    · have := World.block_lt_of_cell? w _ h0
      simpa [Addr.add] using this
    · have hil : i < len := by have := (List.getElem?_eq_some_iff.1 hx).1; simp at this; omega
      rw [List.getElem?_take_of_lt hil] at hx
      have g0 := hi i (by omega)
      rw [ha, Addr.add_lit, List.getD_eq_getElem?_getD, hx] at g0
      rcases j with _ | j
      · simp at hu; subst hu; simpa using g0
      · simp at hu
end
end Go.Proofs.Ytfanphhlagjkdaa
