/-
  Texts of this claim, merged: Ints Ws ClimbO FoldQ Cnt Cens Pieces Place PieceS Rank RankS ClimbM FirstB CutM.
-/
import Derived.Test.YtgdbpkpaacbhhaaP2
import Derived.Deep.RegionWith
import Derived.Deep.RegionHeld3
import Derived.Laws.EntriesVeiled


/-
  Lists of numbers copied and compared.
-/
namespace Go.Proofs.Ytgdbpkpaacbhhaa
open Go.RowKit

theorem fill1 {α : Type} {enc : α → List Value} {cs : Array Value} {n k : Nat} {xs : List α} {x : α} {v : Value} (hs : cs.size = n * 1) (hk : k < n) (hx : xs[k]? = some x) (he : enc x = [v])
    (hc : ∀ i y, i < k → xs[i]? = some y → ∀ j, j < 1 → cs[i * 1 + j]? = (enc y)[j]?) :
    (cs.setIfInBounds k v).size = n * 1 ∧ ∀ i y, i < k + 1 → xs[i]? = some y → ∀ j, j < 1 → (cs.setIfInBounds k v)[i * 1 + j]? = (enc y)[j]? := by
  refine ⟨by simpa using hs, fun i y hi hy j hj => ?_⟩
  obtain rfl : j = 0 := by omega
  by_cases h : i = k
  · subst h
    obtain rfl : x = y := by rw [hx] at hy; exact Option.some.inj hy
    rw [he]
    have : i < cs.size := by omega
    simp [this]
  · rw [← hc i y (by omega) hy 0 hj]
    rw [Array.getElem?_setIfInBounds_ne (by omega)]

def eqInts : List Int → List Int → Bool
  | x :: r, y :: s => decide (x = y) && eqInts r s
  | _, _ => true
theorem eqInts_eq : ∀ (a b : List Int), a.length = b.length → eqInts a b = decide (a = b)
  | [], [], _ => rfl
  | x :: r, y :: s, h => by
    rw [eqInts, eqInts_eq r s (by simpa using h)]
    by_cases h1 : x = y <;> by_cases h2 : r = s <;> simp [h1, h2]
end Go.Proofs.Ytgdbpkpaacbhhaa


/-
  Weights: lists of numbers copied and compared, whether they are weights, and the codes of a grammar with weights.
-/
namespace Go.Proofs.Ytgdbpkpaacbhhaa
open Go.RowKit

/-- are four numbers weights -/
def wsB (ws : List Int) : Bool := decide (ws.length = 4) && ws.all fun z => inB z (-9) 9
theorem wsB_ok {ws : List Int} (h : wsB ws = true) : WsOk ws := by
  simp only [wsB, Bool.and_eq_true, decide_eq_true_eq, List.all_eq_true] at h
  exact ⟨h.1, fun z hz => by have := h.2 z hz; simpa [inB] using this⟩
def wsC (rs : List Fac) (ws : List Int) : Int := if (gOk rs).isSome = false then 1 else if wsB ws = false then 2 else 0
set_option maxHeartbeats 1000000 in
theorem indexInt_any (fp : Nat) (ep : EnterOk fp) (cp : Array Value) (p : Int → Bool) (A : Option Addr) (n c : Nat) (zs : List Int) (w : World) (hn : n ≤ 1048576) (hr : Rd w w.heap.size A n 1 intE zs)
    (hP : ∀ (k : Nat) (x : Int), zs[k]? = some x → ∀ w', Below w.heap.size w w' → Calls Try.prog fp (#[.int .i64 x] ++ cp) w' (Ret (.bool (p x)) w')) :
    Calls Try.prog 102 #[.slice A n c, .func (.func fp) #[] cp] w (Ret (.int .i64 (findI p zs 0)) w) := by
  have hl := Lib.hid hr.len
  have HP := Lib.hid hP; clear hP
  unfold EnterOk at ep
  go_enter Try.func102, Try.ntmps102
  go_wp2_with fail
  go_loopw [8] (fun i_ w' => ∃ k : Nat, i_ = .int .i64 k ∧ k ≤ n ∧ Below w.heap.size w w' ∧ Hid (findI p (zs.drop k) k = findI p zs 0)) (fun i_ _ => n - (intOf i_).toNat)
  case atStart => exact ⟨0, rfl, by omega, Below.refl _ _, Lib.hid rfl⟩
  case round =>
    obtain ⟨k, rfl, hk, hb, H⟩ := hrel
    by_cases hlt : k < n
    · obtain ⟨b, o, x, rfl, hB, gx, c0⟩ := (show Rd wr wr.heap.size A n 1 (fun s => [.int .i64 s]) zs from hr.next hb).int hlt
      have H' := Lib.hid (show (if p x = true then (k : Int) else findI p (zs.drop (k + 1)) (k + 1)) = findI p zs 0 by rw [← H.out, drop_cons gx]; rfl)
      have hc := HP.out k x gx wr hb
      clear gx H
      rcases hp : p x with _ | _
      all_goals
        rw [hp] at hc
        have Hp := Lib.hid hp; clear hp
        have Hc := Lib.hid hc; clear hc
        go_wp2_with fail
        refine Hc.out.mono ?_
        rintro e w1 ⟨rfl, hb1⟩
        go_wp2_with fail
        first
          | (go_ret
             exact ⟨ret_int (by rw [← H'.out, Hp.out]; rfl), hb.trans (hb1.mono hb.size)⟩)
          | (go_roundw
             case rel => exact ⟨k + 1, by go_num, by omega, hb.trans (hb1.mono hb.size), Lib.hid (by rw [← H'.out, Hp.out]; rfl)⟩
             case measure => simp [intOf]; omega)
    · go_wp2_with fail
      go_ret
      exact ⟨ret_int (by rw [← H.out, List.drop_of_length_le (by rw [hl.out]; omega)]; rfl), hb⟩
theorem containsInt_any (fp : Nat) (ep : EnterOk fp) (cp : Array Value) (p : Int → Bool) (A : Option Addr) (n c : Nat) (zs : List Int) (w : World) (hn : n ≤ 1048576) (hr : Rd w w.heap.size A n 1 intE zs)
    (hP : ∀ (k : Nat) (x : Int), zs[k]? = some x → ∀ w', Below w.heap.size w w' → Calls Try.prog fp (#[.int .i64 x] ++ cp) w' (Ret (.bool (p x)) w')) :
    Calls Try.prog 100 #[.slice A n c, .func (.func fp) #[] cp] w (Ret (.bool (zs.any p)) w) := by
  have e := Lib.hid (findI_any p zs 0 (by omega))
  have Hc := Lib.hid (indexInt_any fp ep cp p A n c zs w hn hr hP)
  clear hP hr
  go_enter Try.func100, Try.ntmps100
  go_wp2_with fail
  refine Hc.out.mono ?_
  rintro e1 w1 ⟨rfl, hb1⟩
  go_wp2_with fail
  go_ret
  exact ⟨ret_bool e.out, hb1⟩
theorem areW1_any (z : Int) (w : World) : Calls Try.prog 101 #[.int .i64 z] w (Ret (.bool (!inB z (-9) 9)) w) := by
  have hc := fun W => within_any z (-9) 9 (inB z (-9) 9) W rfl
  generalize inB z (-9) 9 = b at *
  go_enter Try.func101, Try.ntmps101
  go_wp2_with fail
  refine (hc _).mono ?_
  rintro e w1 ⟨rfl, hb1⟩
  go_wp2_with fail
  go_ret
  exact ⟨rfl, hb1⟩
theorem all_any {α : Type} (p : α → Bool) (xs : List α) : (!(xs.any fun x => !p x)) = xs.all p := by
  induction xs with
  | nil => rfl
  | cons x r ih => simp [← ih]
theorem areWeights_any (A : Option Addr) (n c : Nat) (zs : List Int) (w : World) (hn : n ≤ 1048576) (hr : Rd w w.heap.size A n 1 intE zs) :
    Calls Try.prog 91 #[.slice A n c] w (Ret (.bool (wsB zs)) w) := by
  have hl := hr.len
  by_cases h : n = 4
  · have e := Lib.hid (show wsB zs = !(zs.any fun z => !inB z (-9) 9) by rw [all_any]; unfold wsB; rw [hl]; simp [h])
    have e0 : ((n : Int) == 4) = true := by simp [h]
    have HR := Lib.hid hr
    clear hl hr h
    go_enter Try.func91, Try.ntmps91
    go_wp2_with fail
    refine (containsInt_any 101 (enterOk Try.func101 (by kernel_rfl) (by kernel_rfl)) #[] (fun z => !inB z (-9) 9) A n c zs _ hn HR.out (fun k x _ w' _ => areW1_any x w')).mono ?_
    rintro e w1 ⟨rfl, hb1⟩
    go_wp2_with fail
    go_ret
    exact ⟨ret_bool e.out.symm, hb1⟩
  · have e := Lib.hid (show wsB zs = false by unfold wsB; rw [hl]; simp [h])
    have e0 : ((n : Int) == 4) = false := by simp; omega
    clear hl hr h
    go_enter Try.func91, Try.ntmps91
    go_wp2_with fail
    go_ret
    exact ⟨ret_bool e.out.symm, Below.refl _ _⟩
def allW : List Int → Bool → Bool
  | [], b => b
  | x :: r, b => if b = true then allW r (inB x (-9) 9) else b
theorem allW_eq : ∀ (zs : List Int) (b : Bool), allW zs b = (b && zs.all fun z => inB z (-9) 9)
  | [], b => by simp [allW]
  | x :: r, b => by
    unfold allW
    rcases b with _ | _
    · simp
    · rw [if_pos rfl, allW_eq r]; simp
set_option maxHeartbeats 1000000 in
theorem l05Weights_any (gb : Nat) (A : Option Addr) (n c : Nat) (rs : List Fac) (D : Option Addr) (m d : Nat) (zs : List Int) (w : World) (hg : gb < w.heap.size) (hc : w.cell? ⟨gb, 0, none⟩ = some (.slice A n c)) (hn : n ≤ 1048576) (hr : Rd w w.heap.size A n 3 Fac.cells rs)
    (hok : ∀ f ∈ rs, f.l.size ≤ maxLen) (hm : m ≤ 1048576) (hd : Rd w w.heap.size D m 1 intE zs) :
    Calls Try.prog 72 #[.pointer (some ⟨gb, 0, none⟩), .slice D m d] w (Ret (.int .i64 (wsC rs zs)) w) := by
  have hl := Lib.hid hd.len
  have HR := Lib.hid hr; clear hr
  have HD := Lib.hid hd; clear hd
  have HO := Lib.hid hok; clear hok
  rcases hgk : (gOk rs).isSome with _ | _
  · have Hg := Lib.hid hgk; clear hgk
    have e := Lib.hid (show wsC rs zs = 1 by unfold wsC; rw [if_pos Hg.out])
    go_enter Try.func72, Try.ntmps72
    go_wp2_with fail
    refine (l02Ok_any gb A n c rs _ hg hc (by omega) HR.out HO.out false Hg.out).mono ?_
    rintro e1 w1 ⟨rfl, hb1⟩
    go_wp2_with fail
    go_ret
    exact ⟨ret_int e.out.symm, hb1⟩
  · have Hg := Lib.hid hgk; clear hgk
    have e := Lib.hid (show wsC rs zs = if wsB zs = false then 2 else 0 by unfold wsC; rw [if_neg (by rw [Hg.out]; decide)])
    have ha : ∃ b0 : Bool, decide (m = 4) = b0 ∧ ((m : Int) == 4) = b0 := by
      by_cases h : m = 4
      · exact ⟨true, by simp [h], by simp [h]⟩
      · exact ⟨false, by simp [h], by simp; omega⟩
    obtain ⟨b0, h0, e0⟩ := ha
    have e2 := Lib.hid (show wsB zs = allW (zs.drop 0) b0 by rw [allW_eq, ← h0]; unfold wsB; rw [hl.out]; rfl)
    clear h0
    go_enter Try.func72, Try.ntmps72
    go_wp2_with fail
    refine (l02Ok_any gb A n c rs _ hg hc (by omega) HR.out HO.out true Hg.out).mono ?_
    rintro e1 w1 ⟨rfl, hb1⟩
    go_wp2_with fail
    go_loopw [5, 6] (fun ok_ i_ w' => ∃ (k : Nat) (b : Bool), i_ = .int .i64 k ∧ ok_ = .bool b ∧ k ≤ m ∧ Below w.heap.size w w' ∧ Hid (wsB zs = allW (zs.drop k) b)) (fun _ i_ _ => m - (intOf i_).toNat)
    case atStart => exact ⟨0, b0, rfl, rfl, by omega, hb1, e2⟩
    case round =>
      obtain ⟨k, b, rfl, rfl, hk, hb, H⟩ := hrel
      by_cases hlt : k < m
      · obtain ⟨p, o, x, rfl, hB, gx, c0⟩ := (show Rd wr wr.heap.size D m 1 (fun s => [.int .i64 s]) zs from HD.out.next hb).int hlt
        have H' := Lib.hid (show wsB zs = if b = true then allW (zs.drop (k + 1)) (inB x (-9) 9) else b by rw [H.out, drop_cons gx]; rfl)
        clear gx H
        rcases b with _ | _
        · have e5 := Lib.hid (show (if wsB zs = false then (2 : Int) else 0) = 2 by rw [H'.out]; rfl)
          go_wp2_with fail
          go_ret
          exact ⟨ret_int (by rw [e.out, e5.out]), hb⟩
        · rcases hx : inB x (-9) 9 with _ | _
          all_goals
            have Hx := Lib.hid hx; clear hx
            go_wp2_with fail
            refine (specIn_any x (-9) 9 _ _ Hx.out).mono ?_
            rintro e1 w2 ⟨rfl, hb2⟩
            go_wp2_with fail
            go_roundw
            case rel => exact ⟨k + 1, _, by go_num, rfl, by omega, hb.trans (hb2.mono hb.size), Lib.hid (by rw [H'.out, if_pos trivial, Hx.out])⟩
            case measure => simp [intOf]; omega
      · have e3 := Lib.hid (show wsB zs = b by rw [H.out, List.drop_of_length_le (by rw [hl.out]; omega)]; rfl)
        clear H
        rcases b with _ | _
        all_goals
          have e4 := Lib.hid (congrArg (fun t => if t = false then (2 : Int) else 0) e3.out)
          go_wp2_with fail
          go_ret
          exact ⟨ret_int (by rw [e.out]; exact e4.out.symm), hb⟩
set_option maxHeartbeats 1000000 in
theorem climbCode_any (A : Option Addr) (n c : Nat) (rs : List Fac) (D : Option Addr) (m d : Nat) (zs : List Int) (w : World) (hn : n ≤ 1048576) (hr : Rd w w.heap.size A n 3 Fac.cells rs)
    (hok : ∀ f ∈ rs, f.l.size ≤ maxLen) (hm : m ≤ 1048576) (hd : Rd w w.heap.size D m 1 intE zs) :
    Calls Try.prog 69 #[.agg #[.slice A n c], .slice D m d] w (Ret (.int .i64 (wsC rs zs)) w) := by
  have hb0 : Below w.heap.size w (w.alloc (.cells #[.slice A n c] 26)) := by (repeat first | exact Below.refl _ _ | assumption | refine Below.drew ?_ | refine Below.alloc ?_ (by first | exact Nat.le_refl _ | (simp; done) | omega | (simp; omega)) _ | refine Below.setCell ?_ (by first | exact Nat.le_refl _ | (simp; done) | omega | (simp; omega)) _)
  have HR := Lib.hid (hr.next hb0); clear hr
  have HD := Lib.hid (hd.next hb0); clear hd
  have HO := Lib.hid hok; clear hok
  rcases hgk : (gOk rs).isSome with _ | _
  · have Hg := Lib.hid hgk; clear hgk
    have e := Lib.hid (show wsC rs zs = 1 by unfold wsC; rw [if_pos Hg.out])
    go_enter Try.func69, Try.ntmps69
    go_wp2_with fail
    refine (validG_any A n c rs _ (by omega) HR.out HO.out false Hg.out).mono ?_
    rintro e1 w1 ⟨rfl, hb1⟩
    go_wp2_with fail
    go_ret
    exact ⟨ret_int e.out.symm, hb0.trans (hb1.mono hb0.size)⟩
  · have Hg := Lib.hid hgk; clear hgk
    have e := Lib.hid (show wsC rs zs = if wsB zs = false then 2 else 0 by unfold wsC; rw [if_neg (by rw [Hg.out]; decide)])
    go_enter Try.func69, Try.ntmps69
    go_wp2_with fail
    refine (validG_any A n c rs _ (by omega) HR.out HO.out true Hg.out).mono ?_
    rintro e1 w1 ⟨rfl, hb1⟩
    have b1 := hb0.trans (hb1.mono hb0.size)
    go_wp2_with fail
    refine (areWeights_any D m d zs _ hm (HD.out.next hb1)).mono ?_
    rintro e1 w2 ⟨rfl, hb2⟩
    have b2 := b1.trans (hb2.mono b1.size)
    rcases hz : wsB zs with _ | _
    all_goals
      have Hz := Lib.hid hz; clear hz
      go_wp2_with fail
      go_ret
      exact ⟨ret_int (by rw [e.out, Hz.out]; rfl), b2⟩
end Go.Proofs.Ytgdbpkpaacbhhaa


/-
  ClimbOf in the program and in the reference; climbs compared.
-/
namespace Go.Proofs.Ytgdbpkpaacbhhaa
open Go.RowKit

def Cl.w (x : Cl) (k : Int) : Value := .tuple #[x.v, .int .i64 k]
def cloT (rs : List Fac) (ws : List Int) : Cl := if wsC rs ws = 0 then climT ws rs else Cl.nil
theorem wsC_cases (rs : List Fac) (ws : List Int) : (wsC rs ws ≠ 0 ∧ cloT rs ws = Cl.nil) ∨ (wsC rs ws = 0 ∧ (gOk rs).isSome = true ∧ WsOk ws ∧ cloT rs ws = climT ws rs) := by
  by_cases h : wsC rs ws = 0
  · refine Or.inr ⟨h, ?_, ?_, if_pos h⟩
    · unfold wsC at h
      by_cases h1 : (gOk rs).isSome = false
      · rw [if_pos h1] at h; omega
      · simpa only [Bool.not_eq_false] using h1
    · refine wsB_ok ?_
      unfold wsC at h
      by_cases h1 : (gOk rs).isSome = false
      · rw [if_pos h1] at h; omega
      · rw [if_neg h1] at h
        by_cases h2 : wsB ws = false
        · rw [if_pos h2] at h; omega
        · simpa only [Bool.not_eq_false] using h2
  · exact Or.inl ⟨h, if_neg h⟩

def cloV (rs : List Fac) (ws : List Int) : Value := (cloT rs ws).w (wsC rs ws)
theorem cloV_form (rs : List Fac) (ws : List Int) : ∃ t l h k, cloV rs ws = .tuple #[.agg #[.int .i64 t, .int .i64 l, .int .i64 h], .int .i64 k] := ⟨_, _, _, _, rfl⟩
set_option maxHeartbeats 1000000 in
set_option maxRecDepth 100000 in
theorem specClimbO_any (A : Option Addr) (n c : Nat) (rs : List Fac) (D : Option Addr) (m d : Nat) (zs : List Int) (w : World) (hn : n ≤ 1048576) (hr : Rd w w.heap.size A n 3 Fac.cells rs)
    (hok : ∀ f ∈ rs, f.l.size ≤ maxLen) (hm : m ≤ 1048576) (hd : Rd w w.heap.size D m 1 intE zs) :
    Calls Try.prog 26 #[.agg #[.slice A n c], .slice D m d] w (Ret (cloV rs zs) w) := by
  unfold cloV
  have hb0 : Below w.heap.size w (w.alloc (.cells #[.slice A n c] 26)) := by (repeat first | exact Below.refl _ _ | assumption | refine Below.drew ?_ | refine Below.alloc ?_ (by first | exact Nat.le_refl _ | (simp; done) | omega | (simp; omega)) _ | refine Below.setCell ?_ (by first | exact Nat.le_refl _ | (simp; done) | omega | (simp; omega)) _)
  have hB0 := Lib.hid (Blk.new w 26 #[.slice A n c])
  have B2 : Blk ((w.alloc (.cells #[.slice A n c] 26)).alloc (.cells #[.int .i64 0, .int .i64 0, .int .i64 0] 51)) (w.alloc (.cells #[.slice A n c] 26)).heap.size 51 #[.int .i64 0, .int .i64 0, .int .i64 0] := Blk.new _ _ _
  have HR := Lib.hid hr; clear hr
  have HD := Lib.hid hd; clear hd
  have HO := Lib.hid hok; clear hok
  have HC := Lib.hid (wsC_cases rs zs)
  go_enter Try.func26, Try.ntmps26
  go_wp2_with fail
  refine namedC fun w3 H3 => ?_
  have hb3 : Below w.heap.size w w3 := by rw [H3.out]; (repeat first | exact Below.refl _ _ | assumption | refine Below.drew ?_ | refine Below.alloc ?_ (by first | exact Nat.le_refl _ | (simp; done) | omega | (simp; omega)) _ | refine Below.setCell ?_ (by first | exact Nat.le_refl _ | (simp; done) | omega | (simp; omega)) _)
  have BG := Lib.hid (show Blk w3 w.heap.size 26 #[.slice A n c] by rw [H3.out]; exact hB0.out.alloc _)
  have BC := Lib.hid (show Blk w3 (w.heap.size + 1) 51 #[.int .i64 0, .int .i64 0, .int .i64 0] by rw [H3.out]; simpa using B2)
  clear H3 B2
  refine (l05Weights_any w.heap.size A n c rs D m d zs w3 BG.out.lt (BG.out.cell 0) hn (HR.out.next hb3) HO.out hm (HD.out.next hb3)).mono ?_
  rintro e1 w4 ⟨rfl, hb4⟩
  have b4 := hb3.trans (hb4.mono hb3.size)
  have BC4 := BC.out.next hb4
  obtain ⟨q0, q1, q2⟩ := BC4.three
  have f4 := BC4.frozen
  have l4 := BC4.lt
  rcases HC.out with ⟨h1, h2⟩ | ⟨h1, h2, h3, h4⟩
  · have e0 : (wsC rs zs != 0) = true := by simpa using h1
    have e2 := Lib.hid h2
    generalize wsC rs zs = k at *
    clear h1 h2 HC BC4
    go_wp2_with fail
    refine bodyPost_ret (v := (cloT rs zs).w k) (by rw [e2.out]; simp [results, Try.results26, go_sem, Cl.w, Cl.v, Cl.nil, q0, q1, q2]) rfl ⟨rfl, ?_⟩
    exact ((b4.setCell (by simp; try omega) _).setCell (by simp; try omega) _).setCell (by simp; try omega) _
  · have H1 := Lib.hid h1
    obtain ⟨ls, hls⟩ := Option.isSome_iff_exists.1 h2
    have hls' := (gOk_lens hls).1
    have e2 := Lib.hid h4
    rw [h1]
    obtain rfl : m = 4 := by have := h3.1; have := HD.out.len; omega
    have l40 : w.heap.size < w4.heap.size := ((BG.out.next hb4)).lt
    clear h1 h2 h4 HC BC4 hls
    go_wp2_with fail
    refine (l05Climb_any w.heap.size A n c rs D d zs ls w4 l40 ((BG.out.next hb4).cell 0) hn (HR.out.next b4) hls' h3 (HD.out.next b4)).mono ?_
    rintro e1 w5 ⟨rfl, hb5⟩
    have b5 := b4.trans (hb5.mono b4.size)
    have BC5 := (BC.out.next hb4).next hb5
    obtain ⟨q0, q1, q2⟩ := BC5.three
    have f5 := BC5.frozen
    have l5 := BC5.lt
    clear BC5
    generalize climT zs rs = z at *
    go_wp2_with fail
    refine bodyPost_ret (v := (cloT rs zs).w 0) (by rw [e2.out]; simp [results, Try.results26, go_sem, Cl.w, Cl.v, q0, q1, q2]) rfl ⟨by rw [H1.out], ?_⟩
    exact ((b5.setCell (by simp; try omega) _).setCell (by simp; try omega) _).setCell (by simp; try omega) _
set_option maxHeartbeats 1000000 in
set_option maxRecDepth 100000 in
theorem implClimbO_any (A : Option Addr) (n c : Nat) (rs : List Fac) (D : Option Addr) (m d : Nat) (zs : List Int) (w : World) (hn : n ≤ 1048576) (hr : Rd w w.heap.size A n 3 Fac.cells rs)
    (hok : ∀ f ∈ rs, f.l.size ≤ maxLen) (hm : m ≤ 1048576) (hd : Rd w w.heap.size D m 1 intE zs) :
    Calls Try.prog 25 #[.agg #[.slice A n c], .slice D m d] w (Ret (cloV rs zs) w) := by
  unfold cloV
  have hb0 : Below w.heap.size w (w.alloc (.cells #[.slice A n c] 26)) := by (repeat first | exact Below.refl _ _ | assumption | refine Below.drew ?_ | refine Below.alloc ?_ (by first | exact Nat.le_refl _ | (simp; done) | omega | (simp; omega)) _ | refine Below.setCell ?_ (by first | exact Nat.le_refl _ | (simp; done) | omega | (simp; omega)) _)
  have hB0 := Lib.hid (Blk.new w 26 #[.slice A n c])
  have B2 : Blk ((w.alloc (.cells #[.slice A n c] 26)).alloc (.cells #[.int .i64 0, .int .i64 0, .int .i64 0] 51)) (w.alloc (.cells #[.slice A n c] 26)).heap.size 51 #[.int .i64 0, .int .i64 0, .int .i64 0] := Blk.new _ _ _
  have hl := Lib.hid hr.len
  have HR := Lib.hid hr; clear hr
  have HD := Lib.hid hd; clear hd
  have HO := Lib.hid hok; clear hok
  have HC := Lib.hid (wsC_cases rs zs)
  go_enter Try.func25, Try.ntmps25
  go_wp2_with fail
  refine namedC fun w3 H3 => ?_
  have hb3 : Below w.heap.size w w3 := by rw [H3.out]; (repeat first | exact Below.refl _ _ | assumption | refine Below.drew ?_ | refine Below.alloc ?_ (by first | exact Nat.le_refl _ | (simp; done) | omega | (simp; omega)) _ | refine Below.setCell ?_ (by first | exact Nat.le_refl _ | (simp; done) | omega | (simp; omega)) _)
  have BG := Lib.hid (show Blk w3 w.heap.size 26 #[.slice A n c] by rw [H3.out]; exact hB0.out.alloc _)
  have BC := Lib.hid (show Blk w3 (w.heap.size + 1) 51 #[.int .i64 0, .int .i64 0, .int .i64 0] by rw [H3.out]; simpa using B2)
  clear H3 B2
  refine (climbCode_any A n c rs D m d zs w3 hn (HR.out.next hb3) HO.out hm (HD.out.next hb3)).mono ?_
  rintro e1 w4 ⟨rfl, hb4⟩
  have b4 := hb3.trans (hb4.mono hb3.size)
  have BC4 := BC.out.next hb4
  have BG4 := BG.out.next hb4
  have g0 := BG4.cell 0
  obtain ⟨q0, q1, q2⟩ := BC4.three
  have f4 := BC4.frozen
  have l4 := BC4.lt
  rcases HC.out with ⟨h1, h2⟩ | ⟨h1, h2, h3, h4⟩
  · have e0 : (wsC rs zs != 0) = true := by simpa using h1
    have e2 := Lib.hid h2
    generalize wsC rs zs = k at *
    clear h1 h2 HC BC4
    go_wp2_with fail
    refine bodyPost_ret (v := (cloT rs zs).w k) (by rw [e2.out]; simp [results, Try.results25, go_sem, Cl.w, Cl.v, Cl.nil, q0, q1, q2]) rfl ⟨rfl, ?_⟩
    exact ((b4.setCell (by simp; try omega) _).setCell (by simp; try omega) _).setCell (by simp; try omega) _
  · have H1 := Lib.hid h1
    obtain ⟨ls, hls⟩ := Option.isSome_iff_exists.1 h2
    have hls' := (gOk_lens hls).1
    have e2 := Lib.hid h4
    rw [h1]
    obtain rfl : m = 4 := by have := h3.1; have := HD.out.len; omega
    have HT := Lib.hid (top_climT zs rs)
    have HN := Lib.hid (foldAll_len Cl.nil (climF zs) climG Cl.nil rs)
    clear h1 h2 h4 HC BC4 hls
    go_wp2_with fail
    refine (climbs_any A n c rs D d zs ls w4 hn (HR.out.next b4) hls' h3 (HD.out.next b4)).mono ?_
    rintro e1 w5 ⟨A5, c5, rfl, own5, hb5⟩
    go_wp2_with fail
    refine (topC_any A5 _ c5 _ w5 (by have := HN.out; have := hl.out; omega) (by have := HN.out; omega) (Rd.of_own (fun y _ => lenCl y) rfl own5)).mono ?_
    rintro e1 w6 ⟨rfl, hb6⟩
    rw [HT.out]
    have hb6' := hb5.trans (hb6.mono hb5.size)
    have b6 := b4.trans (hb6'.mono b4.size)
    have BC6 := (BC.out.next hb4).next hb6'
    obtain ⟨q0, q1, q2⟩ := BC6.three
    have f6 := BC6.frozen
    have l6 := BC6.lt
    clear BC6 own5
    generalize climT zs rs = z at *
    go_wp2_with fail
    refine bodyPost_ret (v := (cloT rs zs).w 0) (by rw [e2.out]; simp [results, Try.results25, go_sem, Cl.w, Cl.v, q0, q1, q2]) rfl ⟨by rw [H1.out], ?_⟩
    exact ((b6.setCell (by simp; try omega) _).setCell (by simp; try omega) _).setCell (by simp; try omega) _
end Go.Proofs.Ytgdbpkpaacbhhaa


/-
  impl.folded at [4]int64: what it makes of a grammar, by the contracts of the two functions that it is handed.
-/
namespace Go.Proofs.Ytgdbpkpaacbhhaa
open Go.RowKit

structure Q4 where
  a : Int
  b : Int
  c : Int
  d : Int
  deriving Inhabited, DecidableEq
def Q4.nil : Q4 := ⟨0, 0, 0, 0⟩
def encQ4 (y : Q4) : List Value := [.int .i64 y.a, .int .i64 y.b, .int .i64 y.c, .int .i64 y.d]
theorem lenQ4 (y : Q4) : (encQ4 y).length = 4 := rfl

end Go.Proofs.Ytgdbpkpaacbhhaa


/-
  How often letters occur in the words of all rules: the model, and the program's census.
-/
namespace Go.Proofs.Ytgdbpkpaacbhhaa
open Go.RowKit

/-- the number of a letter in four numbers -/
def Q4.at_ (q : Q4) : Nat → Int
  | 0 => q.a
  | 1 => q.b
  | 2 => q.c
  | _ => q.d
theorem encQ4_at (q : Q4) {l : Nat} (h : l < 4) : (encQ4 q)[l]? = some (.int .i64 (q.at_ l)) := by
  match l, h with
  | 0, _ => rfl
  | 1, _ => rfl
  | 2, _ => rfl
  | 3, _ => rfl
def cntF (l : Nat) : Q4 := ⟨if l = 0 then 1 else 0, if l = 1 then 1 else 0, if l = 2 then 1 else 0, if l = 3 then 1 else 0⟩
def cntG (x y : Q4) (_ : Fac) : Q4 := ⟨x.a + y.a, x.b + y.b, x.c + y.c, x.d + y.d⟩
theorem cntF_at (l : Nat) {j : Nat} (h : j < 4) : (cntF l).at_ j = if l = j then 1 else 0 := by
  match j, h with
  | 0, _ => rfl
  | 1, _ => rfl
  | 2, _ => rfl
  | 3, _ => rfl
theorem cntG_at (x y : Q4) (r : Fac) (j : Nat) : (cntG x y r).at_ j = x.at_ j + y.at_ j := by
  match j with
  | 0 => rfl
  | 1 => rfl
  | 2 => rfl
  | _ + 3 => rfl
/-- how often letters occur, for each rule -/
abbrev cnts (rs : List Fac) : List Q4 := full Q4.nil cntF cntG rs
def QB (m : Int) (q : Q4) : Prop := 0 ≤ q.a ∧ 0 ≤ q.b ∧ 0 ≤ q.c ∧ 0 ≤ q.d ∧ q.a + q.b + q.c + q.d = m
theorem QB.at_ {m : Int} {q : Q4} (h : QB m q) (j : Nat) : 0 ≤ q.at_ j ∧ q.at_ j ≤ m := by
  obtain ⟨h0, h1, h2, h3, h4⟩ := h
  match j with
  | 0 => exact ⟨h0, show q.a ≤ m by omega⟩
  | 1 => exact ⟨h1, show q.b ≤ m by omega⟩
  | 2 => exact ⟨h2, show q.c ≤ m by omega⟩
  | _ + 3 => exact ⟨h3, show q.d ≤ m by omega⟩
theorem cnt_bound {rs : List Fac} {ls : List Int} (hls : gLens rs [] = some ls) {k : Nat} (hk : k < rs.length) : QB (ls.getD k 0) ((cnts rs).getD k Q4.nil) := by
  have hwf := wf_of hls
  refine full_ind Q4.nil cntF cntG hwf (fun k x => QB (ls.getD k 0) x) (fun k r hr h => ?_) (fun k r a b hr h0 h1 h2 h3 h4 ha hb => ?_) k hk
  · have h0 : r.l.size ≠ 0 := by
      obtain ⟨c, _, e⟩ := letT_one h
      rw [e]; show (1 : Nat) ≠ 0; omega
    show QB (ls.getD k 0) _
    rw [lens_let hls hr h0]
    have := letN_lt h
    generalize letN r.l = l at *
    match l, this with
    | 0, _ => simp [QB, cntF]
    | 1, _ => simp [QB, cntF]
    | 2, _ => simp [QB, cntF]
    | 3, _ => simp [QB, cntF]
  · show QB (ls.getD k 0) _
    rw [lens_pair hls hr h0]
    obtain ⟨a0, a1, a2, a3, a4⟩ := ha
    obtain ⟨b0, b1, b2, b3, b4⟩ := hb
    simp only [QB, cntG]
    omega
theorem cnt_at {rs : List Fac} {ls : List Int} (hls : gLens rs [] = some ls) {k : Nat} (hk : k < rs.length) (j : Nat) : 0 ≤ ((cnts rs).getD k Q4.nil).at_ j ∧ ((cnts rs).getD k Q4.nil).at_ j ≤ 1000000000000000 := by
  have h1 := (cnt_bound hls hk).at_ j
  have h2 := lens_bound hls hk
  omega
abbrev Q4.v (x : Q4) : Value := .agg #[.int .i64 x.a, .int .i64 x.b, .int .i64 x.c, .int .i64 x.d]
theorem Blk.four {w : World} {g : Nat} {t : TypeId} {x y z u : Value} (h : Blk w g t #[x, y, z, u]) : w.cell? ⟨g, 0, none⟩ = some x ∧ w.cell? ⟨g, 1, none⟩ = some y ∧ w.cell? ⟨g, 2, none⟩ = some z ∧ w.cell? ⟨g, 3, none⟩ = some u := ⟨h.cell 0, h.cell 1, h.cell 2, h.cell 3⟩

end Go.Proofs.Ytgdbpkpaacbhhaa


/-
  The program's census, and the reference's table of counts.
-/
namespace Go.Proofs.Ytgdbpkpaacbhhaa
open Go.RowKit

def encG (g : Nat) : List Value := [.slice (some ⟨g, 0, none⟩) 4 4]
theorem one_encG (g : Nat) : ∀ u ∈ encG g, u.oneCell' = true := by
  intro u hu
  obtain rfl : u = .slice (some ⟨g, 0, none⟩) 4 4 := by simpa [encG] using hu
  rfl
theorem elemG : Elem Try.prog 41 46 1 24 := Elem.mk' (z := .slice none 0 0) Try.underlying41 (by kernel_rfl) rfl
def RowsOk (w : World) (base : Nat) (gs : List Nat) (qs : List Q4) : Prop := gs.length = qs.length ∧ ∀ i g, gs[i]? = some g → base ≤ g ∧ Blk w g 2 (encQ4 (qs.getD i Q4.nil)).toArray
def RetRows (w0 : World) (qs : List Q4) (e : Ending) (w' : World) : Prop :=
  ∃ A c gs, e = .returned (.slice A qs.length c) ∧ w'.ownsRow w0.heap.size 46 1 (.slice A qs.length c) qs.length (gs.flatMap encG) ∧ RowsOk w' w0.heap.size gs qs ∧ Below w0.heap.size w0 w'
/-- a table of numbers in memory -/
def Tab (w : World) (B : Nat) (A : Option Addr) (n : Nat) (qs : List Q4) : Prop :=
  qs.length = n ∧ ∀ k, k < n → ∃ b o g, A = some ⟨b, o, none⟩ ∧ b < B ∧ g < B ∧ w.cell? ⟨b, o + k, none⟩ = some (.slice (some ⟨g, 0, none⟩) 4 4) ∧ ∀ j, j < 4 → w.cell? ⟨g, j, none⟩ = some (.int .i64 ((qs.getD k Q4.nil).at_ j))
theorem Tab.next {w w' : World} {A : Option Addr} {n : Nat} {qs : List Q4} (h : Tab w w.heap.size A n qs) (hb : Below w.heap.size w w') : Tab w' w'.heap.size A n qs := by
  refine ⟨h.1, fun k hk => ?_⟩
  obtain ⟨b, o, g, hA, hB, hg, hc, hj⟩ := h.2 k hk
  have := hb.size
  exact ⟨b, o, g, hA, by omega, by omega, (hb.cell (p := ⟨b, o + k, none⟩) hB).trans hc, fun j hj' => (hb.cell (p := ⟨g, j, none⟩) hg).trans (hj j hj')⟩
theorem encG_at {w : World} {base c k : Nat} {A : Option Addr} {gs : List Nat} (h : w.ownsRow base 46 1 (.slice A k c) k (gs.flatMap encG)) (hl : gs.length = k) {i : Nat} (hi : i < k) :
    ∃ p g, A = some ⟨p, 0, none⟩ ∧ base ≤ p ∧ p < w.heap.size ∧ gs[i]? = some g ∧ w.cell? ⟨p, i, none⟩ = some (.slice (some ⟨g, 0, none⟩) 4 4) := by
  obtain ⟨p, cap, hv, hg, hs⟩ := h.form (by omega)
  injection hv with hA _ _
  subst hA
  have hx : gs[i]? = some (gs[i]'(by omega)) := List.getElem?_eq_getElem _
  refine ⟨p, _, rfl, hg, hs, hx, ?_⟩
  rw [h.cellAt i (by omega)]
  have := flat_at (enc := encG) (sz := 1) gs (fun _ _ => rfl) i _ hx 0 (by omega)
  rw [Nat.mul_one, Nat.add_zero] at this
  rw [this]; rfl
theorem Tab.of {w : World} {base c n : Nat} {A : Option Addr} {gs : List Nat} {qs : List Q4} (hn : qs.length = n) (h : w.ownsRow base 46 1 (.slice A n c) n (gs.flatMap encG)) (hr : RowsOk w base gs qs) : Tab w w.heap.size A n qs := by
  refine ⟨hn, fun k hk => ?_⟩
  obtain ⟨p, g, hA, hp, hs, hx, hc⟩ := encG_at h (hr.1.trans hn) hk
  obtain ⟨hg, hB⟩ := hr.2 k g hx
  refine ⟨p, 0, g, hA, hs, hB.lt, by simpa using hc, fun j hj => ?_⟩
  rw [hB.cell]
  simpa using encQ4_at (qs.getD k Q4.nil) hj
def part (q : Q4) (l : Nat) : Array Value := #[.int .i64 (if 0 < l then q.a else 0), .int .i64 (if 1 < l then q.b else 0), .int .i64 (if 2 < l then q.c else 0), .int .i64 (if 3 < l then q.d else 0)]
theorem part_size (q : Q4) (l : Nat) : (part q l).size = 4 := rfl
theorem part_all (q : Q4) : part q 4 = (encQ4 q).toArray := rfl
theorem part_at (q : Q4) {l : Nat} (h : l < 4) : (part q l)[l]? = some (.int .i64 0) := by
  match l, h with
  | 0, _ => rfl
  | 1, _ => rfl
  | 2, _ => rfl
  | 3, _ => rfl
theorem part_set (q : Q4) {l : Nat} (h : l < 4) : (part q l).setIfInBounds l (.int .i64 (q.at_ l)) = part q (l + 1) := by
  match l, h with
  | 0, _ => rfl
  | 1, _ => rfl
  | 2, _ => rfl
  | 3, _ => rfl
theorem part_skip (q : Q4) {l : Nat} (h : l < 4) (h0 : q.at_ l = 0) : part q l = part q (l + 1) := by
  rw [← part_set q h, h0]
  apply Array.ext_getElem?
  intro i
  by_cases hi : i = l
  · subst hi; rw [part_at q h, Array.getElem?_setIfInBounds_self_of_lt (by rw [part_size]; exact h)]
  · rw [Array.getElem?_setIfInBounds_ne (by omega)]
theorem fill_row {w wo wr : World} {k c' l : Nat} {A' : Option Addr} {gs : List Nat} {os : List Q4} {q : Q4} {x : Fac} (hb2 : Below w.heap.size w wr) (hO : wr.ownsRow w.heap.size 46 1 (.slice A' k c') k (gs.flatMap encG))
    (hQ : RowsOk wr w.heap.size gs os) (BX : Blk wr wo.heap.size 82 #[.string x.l, .int .i64 x.a, .int .i64 x.b]) (BL : Blk wr (wo.heap.size + 1) 2 (part q l)) (hgs : ∀ (i g : Nat), gs[i]? = some g → g < wo.heap.size)
    (hw : w.heap.size ≤ wo.heap.size + 1) (hl : l < 4) :
    Below w.heap.size w (wr.setCell ⟨wo.heap.size + 1, l, none⟩ (.int .i64 (q.at_ l))) ∧ (wr.setCell ⟨wo.heap.size + 1, l, none⟩ (.int .i64 (q.at_ l))).ownsRow w.heap.size 46 1 (.slice A' k c') k (gs.flatMap encG) ∧
      RowsOk (wr.setCell ⟨wo.heap.size + 1, l, none⟩ (.int .i64 (q.at_ l))) w.heap.size gs os ∧ Blk (wr.setCell ⟨wo.heap.size + 1, l, none⟩ (.int .i64 (q.at_ l))) wo.heap.size 82 #[.string x.l, .int .i64 x.a, .int .i64 x.b] ∧
      Blk (wr.setCell ⟨wo.heap.size + 1, l, none⟩ (.int .i64 (q.at_ l))) (wo.heap.size + 1) 2 (part q (l + 1)) := by
  refine ⟨hb2.setCell hw _, hO.kept (gb_set wr _ _ _) (.inr (own_blk_ne hO BL (by decide)).symm), ⟨hQ.1, fun i g h => ⟨(hQ.2 i g h).1, (hQ.2 i g h).2.far (by have := hgs i g h; show g ≠ wo.heap.size + 1; omega) _⟩⟩, BX.far (by show wo.heap.size ≠ wo.heap.size + 1; omega) _, ?_⟩
  rw [← part_set q hl]
  exact BL.set_ l _
theorem rows_push {w w8 w9 : World} {k c' g : Nat} {A' : Option Addr} {gs : List Nat} {os : List Q4} {q : Q4} {base : Nat} (hO : w8.ownsRow base 46 1 (.slice A' k c') k (gs.flatMap encG)) (hQ : RowsOk w base gs os) (hk : os.length = k)
    (BL : Blk w g 2 (encQ4 q).toArray) (hg : base ≤ g) (h8 : ∀ (g : Nat) (t : TypeId) (cs : Array Value), Blk w g t cs → Blk w8 g t cs) (hg9 : w8.grownBy w9 (Value.slice A' k c').ownBlock) : RowsOk w9 base (gs ++ [g]) (os ++ [q]) := by
  have hlen := hQ.1
  refine ⟨by simp [hlen], fun i p hp => ?_⟩
  by_cases hi : i < os.length
  · rw [List.getElem?_append_left (by omega)] at hp
    obtain ⟨h1, h2⟩ := hQ.2 i p hp
    have h3 := h8 _ _ _ h2
    refine ⟨h1, ?_⟩
    rw [List.getD_eq_getElem?_getD, List.getElem?_append_left hi, ← List.getD_eq_getElem?_getD]
    exact h3.grown hg9 (own_blk_ne hO h3 (by decide))
  · have hi2 : i = os.length := by
      have := (List.getElem?_eq_some_iff.1 hp).1
      simp at this; omega
    subst hi2
    rw [List.getElem?_append_right (by omega), hlen] at hp
    obtain rfl : g = p := by simpa using hp
    have h3 := h8 _ _ _ BL
    refine ⟨hg, ?_⟩
    rw [List.getD_eq_getElem?_getD, List.getElem?_append_right (by omega)]
    simp only [Nat.sub_self, List.getElem?_cons_zero, Option.getD_some]
    exact h3.grown hg9 (own_blk_ne hO h3 (by decide))
set_option maxHeartbeats 2000000 in
set_option maxRecDepth 100000 in
theorem l05Counts_any (gb : Nat) (A : Option Addr) (n c : Nat) (rs : List Fac) (ls : List Int) (w : World) (hg : gb < w.heap.size) (hc : w.cell? ⟨gb, 0, none⟩ = some (.slice A n c)) (hn : n ≤ 1048576) (hr : Rd w w.heap.size A n 3 Fac.cells rs)
    (hls : gLens rs [] = some ls) :
    Calls Try.prog 76 #[.pointer (some ⟨gb, 0, none⟩)] w (RetRows w (cnts rs)) := by
  have hl := Lib.hid hr.len
  have HL := Lib.hid hls; clear hls
  have hmk := make4
  go_enter Try.func76, Try.ntmps76
  go_wp2
  go_loopw [3, 4] (fun o_ i_ w' => ∃ (k : Nat) (A' : Option Addr) (c' : Nat) (gs : List Nat), i_ = .int .i64 k ∧ o_ = .slice A' k c' ∧ k ≤ n ∧
      Hid (w'.ownsRow w.heap.size 46 1 (.slice A' k c') k (gs.flatMap encG)) ∧ Hid (RowsOk w' w.heap.size gs (outs Q4.nil cntF cntG rs k)) ∧ Below w.heap.size w w') (fun _ i_ _ => n - (intOf i_).toNat)
  case atStart =>
    exact ⟨0, _, 0, [], rfl, rfl, by omega, Lib.hid (by simpa using World.ownsRow_made (base := w.heap.size) (e := 46) (size := 1) w #[] 0 (Nat.le_refl _) (by unfold maxLen; omega) rfl), Lib.hid ⟨by simp [outs, foldG], by simp⟩, by (repeat first | exact Below.refl _ _ | assumption | refine Below.drew ?_ | refine Below.alloc ?_ (by first | exact Nat.le_refl _ | (simp; done) | omega | (simp; omega)) _ | refine Below.setCell ?_ (by first | exact Nat.le_refl _ | (simp; done) | omega | (simp; omega)) _)⟩
  case round =>
    obtain ⟨k, A', c', gs, rfl, rfl, hk, hown, hrow, hb⟩ := hrel
    rename World => wo
    have cg := (hb.cell (p := ⟨gb, 0, none⟩) hg).trans hc
    have lg : gb < wo.heap.size := by have := hb.size; omega
    by_cases hlt : k < n
    · obtain ⟨b, o, x, rfl, hB, gx, c0, c1, c2⟩ := (hr.next hb).fac hlt
      have Hst := Lib.hid (outs_step Q4.nil cntF cntG gx)
      have Hol := Lib.hid (outs_len Q4.nil cntF cntG rs k (by rw [hl.out]; exact hk))
      have Gx := Lib.hid gx; clear gx
      go_wp2_with fail
      refine named fun w1 H1 => ?_
      have b1 : Below wo.heap.size wo w1 := by rw [H1.out]; (repeat first | exact Below.refl _ _ | assumption | refine Below.drew ?_ | refine Below.alloc ?_ (by first | exact Nat.le_refl _ | (simp; done) | omega | (simp; omega)) _ | refine Below.setCell ?_ (by first | exact Nat.le_refl _ | (simp; done) | omega | (simp; omega)) _)
      have BX := Lib.hid (show Blk w1 wo.heap.size 82 #[.string x.l, .int .i64 x.a, .int .i64 x.b] by rw [H1.out]; exact (Blk.new wo _ _).alloc _)
      have BL := Lib.hid (show Blk w1 (wo.heap.size + 1) 2 (part (fStep Q4.nil cntF cntG (outs Q4.nil cntF cntG rs k) x) 0) by rw [H1.out]; simpa [part] using Blk.new (wo.alloc _) 2 #[.int .i64 0, .int .i64 0, .int .i64 0, .int .i64 0])
      clear H1
      have hQ := Lib.hid (show RowsOk w1 w.heap.size gs (outs Q4.nil cntF cntG rs k) from ⟨hrow.out.1, fun i g h => ⟨(hrow.out.2 i g h).1, (hrow.out.2 i g h).2.next b1⟩⟩)
      have hO := Lib.hid (own_next hown.out b1)
      have cb1 := hb.trans (b1.mono hb.size)
      have sz1 := BL.out.lt
      generalize hq : fStep Q4.nil cntF cntG (outs Q4.nil cntF cntG rs k) x = q at *
      have Hq := Lib.hid hq; clear hq
      have hgs := Lib.hid (fun (i g : Nat) (h : gs[i]? = some g) => (hrow.out.2 i g h).2.lt)
      clear cg c0 c1 c2 hown hrow
      go_loopw [7] (fun l_ w' => ∃ (l : Nat), l_ = .int .i64 l ∧ l ≤ 4 ∧ Below w.heap.size w w' ∧ Hid (w'.ownsRow w.heap.size 46 1 (.slice A' k c') k (gs.flatMap encG)) ∧ Hid (RowsOk w' w.heap.size gs (outs Q4.nil cntF cntG rs k)) ∧
          Hid (Blk w' wo.heap.size 82 #[.string x.l, .int .i64 x.a, .int .i64 x.b]) ∧ Hid (Blk w' (wo.heap.size + 1) 2 (part q l))) (fun l_ _ => 4 - (intOf l_).toNat)
      case atStart => exact ⟨0, rfl, by omega, cb1, hO, hQ, BX, BL⟩
      case round =>
        obtain ⟨l, rfl, hl4, hb2, hO2, hQ2, BX2, BL2⟩ := hrel
        clear hO hQ BX BL
        obtain ⟨d0, d1, d2⟩ := BX2.out.three
        have lx := BX2.out.lt
        have ll := BL2.out.lt
        by_cases hl' : l < 4
        · have cl := BL2.out.cell l
          rw [part_at q hl'] at cl
          have fl := BL2.out.frozen l
          have j0 : (0 : Int) ≤ (l : Int) := by omega
          have j1 : (l : Int) < 4 := by omega
          have j2 : ((l : Int)).toNat = l := by omega
          rcases wf_of HL.out k x Gx.out with ⟨h0, ha0, ha1, hb0, hb1⟩ | ⟨cc, hcc, hxl, hxa, hxb⟩
          · have e0 := size0 h0
            have hkr : k ≤ rs.length := by rw [hl.out]; exact hk
            have q1 := cnt_at HL.out (k := x.a.toNat) (by omega) l
            have q2 := cnt_at HL.out (k := x.b.toNat) (by omega) l
            rw [← outs_full Q4.nil cntF cntG (k := k) (i := x.a.toNat) (by omega) hkr] at q1
            rw [← outs_full Q4.nil cntF cntG (k := k) (i := x.b.toNat) (by omega) hkr] at q2
            obtain ⟨p, ga, rfl, hp0, hp1, gga, ea⟩ := encG_at hO2.out (hQ2.out.1.trans Hol.out) (i := x.a.toNat) (by omega)
            obtain ⟨p', gbb, hpp, _, _, ggb, eb⟩ := encG_at hO2.out (hQ2.out.1.trans Hol.out) (i := x.b.toNat) (by omega)
            obtain rfl : p = p' := by injection hpp with hpp; injection hpp
            obtain ⟨hga, BA⟩ := hQ2.out.2 _ _ gga
            obtain ⟨hgb, BB⟩ := hQ2.out.2 _ _ ggb
            have va := BA.cell l
            have vb := BB.cell l
            rw [List.getElem?_toArray, encQ4_at _ hl'] at va vb
            have Hv := Lib.hid (show ((outs Q4.nil cntF cntG rs k).getD x.a.toNat Q4.nil).at_ l + ((outs Q4.nil cntF cntG rs k).getD x.b.toNat Q4.nil).at_ l = q.at_ l by
              rw [← Hq.out]; unfold fStep; rw [if_pos h0, cntG_at])
            generalize ((outs Q4.nil cntF cntG rs k).getD x.a.toNat Q4.nil).at_ l = va_ at *
            generalize ((outs Q4.nil cntF cntG rs k).getD x.b.toNat Q4.nil).at_ l = vb_ at *
            have u1 : IntKind.i64.wrap (va_ + vb_) = va_ + vb_ := IntWalk.i64_in _ (by omega)
            have z1 := BA.lt
            have z2 := BB.lt
            have n1 := hgs.out _ _ gga
            have n2 := hgs.out _ _ ggb
            have hpl : p ≠ wo.heap.size + 1 := fun he => own_blk_ne hO2.out BL2.out (by decide) (by rw [← he]; rfl)
            clear h0 hpp gga ggb BA BB
            go_wp2_with fail
            go_region
            rw [Hv.out]
            generalize hW : (wr.setCell ⟨wo.heap.size + 1, l, none⟩ (.int .i64 (q.at_ l))).drew = w8
            have H8 := Lib.hid hW.symm; clear hW
            have S8 := Lib.hid (show Below w.heap.size w w8 ∧ w8.ownsRow w.heap.size 46 1 (.slice (some ⟨p, 0, none⟩) k c') k (gs.flatMap encG) ∧ RowsOk w8 w.heap.size gs (outs Q4.nil cntF cntG rs k) ∧
                Blk w8 wo.heap.size 82 #[.string x.l, .int .i64 x.a, .int .i64 x.b] ∧ Blk w8 (wo.heap.size + 1) 2 (part q (l + 1)) from by
              rw [H8.out]
              have S := fill_row hb2 hO2.out hQ2.out BX2.out BL2.out hgs.out (by have := hb.size; omega) hl'
              exact ⟨S.1.drew, S.2.1.drew, S.2.2.1, S.2.2.2.1.drew, S.2.2.2.2.drew⟩)
            clear H8
            go_wp2_with fail
            go_roundw
            case rel => exact ⟨l + 1, by go_num, by omega, S8.out.1, Lib.hid S8.out.2.1, Lib.hid S8.out.2.2.1, Lib.hid S8.out.2.2.2.1, Lib.hid S8.out.2.2.2.2⟩
            case measure => simp [intOf]; omega
          · have hq1 : q.at_ l = if cc.toNat - 97 = l then 1 else 0 := by
              rw [← Hq.out]; unfold fStep
              rw [if_neg (by rw [hxl]; show ¬ (1 : Nat) = 0; omega), cntF_at _ hl', hxl, letN_one]
            obtain ⟨xl, xa, xb⟩ := x
            simp only at hxl hxa hxb d0 d1 d2
            subst hxl hxa hxb
            obtain ⟨hl0, hl1⟩ := letB_num hcc
            have e1 := size1 (s := ⟨#[cc]⟩) (show (1 : Nat) ≠ 0 by omega)
            have e2 := size1' (s := ⟨#[cc]⟩) (show (1 : Nat) ≠ 0 by omega)
            have Hcc := Lib.hid hcc
            clear hcc cl fl
            go_wp2_with fail
            refine (l04Letter_any cc Hcc.out _).mono ?_
            rintro e w3 ⟨rfl, hb3⟩
            have b3 := hb2.trans (hb3.mono hb2.size)
            have BX3 := Lib.hid (BX2.out.next hb3)
            have BL3 := Lib.hid (BL2.out.next hb3)
            have hO3 := Lib.hid (own_next hO2.out hb3)
            have hQ3 := Lib.hid (show RowsOk w3 w.heap.size gs (outs Q4.nil cntF cntG rs k) from ⟨hQ2.out.1, fun i g h => ⟨(hQ2.out.2 i g h).1, (hQ2.out.2 i g h).2.next hb3⟩⟩)
            have cl := BL3.out.cell l
            rw [part_at q hl'] at cl
            have fl := BL3.out.frozen l
            have ll3 := BL3.out.lt
            by_cases hc' : cc.toNat - 97 = l
            · rw [if_pos hc'] at hq1
              have e3 : ((l : Int) == (cc.toNat : Int) - 97) = true := by simp; omega
              have S8 := Lib.hid (fill_row (x := ⟨⟨#[cc]⟩, 0, 0⟩) b3 hO3.out hQ3.out BX3.out BL3.out hgs.out (by have := hb.size; omega) hl')
              rw [hq1] at S8
              clear hc'
              go_wp2_with fail
              go_roundw
              case rel => exact ⟨l + 1, by go_num, by omega, S8.out.1, Lib.hid S8.out.2.1, Lib.hid S8.out.2.2.1, Lib.hid S8.out.2.2.2.1, Lib.hid S8.out.2.2.2.2⟩
              case measure => simp [intOf]; omega
            · rw [if_neg hc'] at hq1
              have e3 : ((l : Int) == (cc.toNat : Int) - 97) = false := by simp; omega
              have BL4 := Lib.hid (show Blk w3 (wo.heap.size + 1) 2 (part q (l + 1)) by rw [← part_skip q hl' hq1]; exact BL3.out)
              clear hc'
              go_wp2_with fail
              go_roundw
              case rel => exact ⟨l + 1, by go_num, by omega, b3, hO3, hQ3, BX3, BL4⟩
              case measure => simp [intOf]; omega
        · obtain rfl : l = 4 := by omega
          rw [part_all] at BL2
          go_wp2_with
            (at_builtin
             refine wpList_pushG rfl _ _ _ rfl w.heap.size 46 1 24 elemG encG _ k c' gs rfl (hO2.out.alloc _) wr.heap.size (wo.heap.size + 1) #[.slice (some ⟨wo.heap.size + 1, 0, none⟩) 4 4] 46 (0, 0) rfl (heap_alloc_new _ _) rfl rfl (one_encG _) (by omega) (by omega) (by unfold maxLen; omega) (by have := hb2.size; simp; omega) ?_
             intro A9 c9 w9 own9 hg9 hat9
             have O9 := Lib.hid own9
             have hz9 : w.heap.size ≤ (wr.alloc (Obj.cells #[Value.slice (some { block := wo.heap.size + 1, off := 0 }) 4 4] 46)).heap.size := (by have := hb2.size; simp; omega)
             have hb9 := Lib.hid ((hb2.alloc hb2.size _).grown hg9 hz9 (own_ge hO2.out))
             have G9 := Lib.hid hg9
             clear own9 hat9 hg9)
          go_roundw
          case rel =>
            refine ⟨k + 1, A9, c9, gs ++ [wo.heap.size + 1], by go_num, rfl, by omega, O9, Lib.hid ?_, hb9.out⟩
            rw [Hst.out]
            exact rows_push (hO2.out.alloc _) hQ2.out Hol.out BL2.out (by have := hb.size; omega) (fun g t cs h => h.alloc _) G9.out
          case measure => simp [intOf]; omega
    · have e := Lib.hid (show outs Q4.nil cntF cntG rs k = cnts rs from outs_all Q4.nil cntF cntG rs k (by rw [hl.out]; omega))
      have e2 := Lib.hid (outs_len Q4.nil cntF cntG rs k (by rw [hl.out]; omega))
      have hrow' := Lib.hid (show RowsOk wo w.heap.size gs (cnts rs) by rw [← e.out]; exact hrow.out)
      have e3 := Lib.hid (show (cnts rs).length = k by rw [← e.out, e2.out])
      go_wp2_with fail
      go_ret
      refine ⟨A', c', gs, ret_slice e3.out.symm, ?_, hrow'.out, hb⟩
      rw [e3.out]
      exact hown.out
end Go.Proofs.Ytgdbpkpaacbhhaa


/-
  The rules that are met when the last rule is taken apart for a part of its word: (Grammar).pieces, by the contract of the function that it is handed.
-/
namespace Go.Proofs.Ytgdbpkpaacbhhaa
open Go.RowKit

theorem Rd.i64 {w : World} {B n : Nat} {A : Option Addr} {xs : List Int} {k : Nat} (h : Rd w B A n 1 intE xs) (hk : k < n) :
    ∃ b o, A = some ⟨b, o, none⟩ ∧ b < B ∧ w.cell? ⟨b, o + k, none⟩ = some (.int .i64 (xs.getD k 0)) := by
  obtain ⟨b, o, hA, hb, x, hx, hc⟩ := h.at_ hk
  refine ⟨b, o, hA, hb, ?_⟩
  have := hc 0 _ rfl
  rw [List.getD_eq_getElem?_getD, hx]
  simpa using this
/-- the rules that are met -/
def pcs (ls : List Int) (rs : List Fac) (i j : Int) : Nat → Nat → Int → List Nat
  | 0, _, _ => []
  | f + 1, r, a =>
    if a + ls.getD r 0 ≤ i then [] else if j ≤ a then [] else if i ≤ a ∧ a + ls.getD r 0 ≤ j then [r] else
    match rs[r]? with
    | none => []
    | some x => pcs ls rs i j f x.a.toNat a ++ pcs ls rs i j f x.b.toNat (a + ls.getD x.a.toNat 0)
theorem pcs_out1 {ls : List Int} {rs : List Fac} {i j : Int} {f r : Nat} {a : Int} (h : a + ls.getD r 0 ≤ i) : pcs ls rs i j f r a = [] := by
  cases f with
  | zero => rfl
  | succ f => rw [pcs, if_pos h]
theorem pcs_out2 {ls : List Int} {rs : List Fac} {i j : Int} {f r : Nat} {a : Int} (h : j ≤ a) : pcs ls rs i j f r a = [] := by
  cases f with
  | zero => rfl
  | succ f => rw [pcs, if_pos h]; split <;> rfl
theorem pcs_in {ls : List Int} {rs : List Fac} {i j : Int} {f r : Nat} {a : Int} (hf : r < f) (h1 : ¬ a + ls.getD r 0 ≤ i) (h2 : ¬ j ≤ a) (h3 : i ≤ a) (h4 : a + ls.getD r 0 ≤ j) : pcs ls rs i j f r a = [r] := by
  obtain ⟨g, rfl⟩ : ∃ g, f = g + 1 := ⟨f - 1, by omega⟩
  rw [pcs, if_neg h1, if_neg h2, if_pos ⟨h3, h4⟩]
theorem pcs_go {ls : List Int} {rs : List Fac} {i j : Int} {f r : Nat} {a : Int} {x : Fac} (hf : r < f) (h1 : ¬ a + ls.getD r 0 ≤ i) (h2 : ¬ j ≤ a) (h3 : ¬ (i ≤ a ∧ a + ls.getD r 0 ≤ j)) (hx : rs[r]? = some x) :
    pcs ls rs i j f r a = pcs ls rs i j (f - 1) x.a.toNat a ++ pcs ls rs i j (f - 1) x.b.toNat (a + ls.getD x.a.toNat 0) := by
  obtain ⟨g, rfl⟩ : ∃ g, f = g + 1 := ⟨f - 1, by omega⟩
  rw [pcs, if_neg h1, if_neg h2, if_neg h3, hx]
  rfl
theorem pcs_fuel {ls : List Int} {rs : List Fac} {i j : Int} (hls : gLens rs [] = some ls) : ∀ {r f g : Nat} {a : Int}, r < f → r < g → pcs ls rs i j f r a = pcs ls rs i j g r a := by
  intro r
  induction r using Nat.strongRecOn with
  | ind r ih =>
    intro f g a hf hg
    by_cases h1 : a + ls.getD r 0 ≤ i
    · rw [pcs_out1 h1, pcs_out1 h1]
    by_cases h2 : j ≤ a
    · rw [pcs_out2 h2, pcs_out2 h2]
    by_cases h3 : i ≤ a ∧ a + ls.getD r 0 ≤ j
    · rw [pcs_in hf h1 h2 h3.1 h3.2, pcs_in hg h1 h2 h3.1 h3.2]
    rcases hx : rs[r]? with _ | x
    · obtain ⟨f', rfl⟩ : ∃ f', f = f' + 1 := ⟨f - 1, by omega⟩
      obtain ⟨g', rfl⟩ : ∃ g', g = g' + 1 := ⟨g - 1, by omega⟩
      rw [pcs, pcs, if_neg h1, if_neg h1, if_neg h2, if_neg h2, if_neg h3, if_neg h3, hx]
    · rcases wf_of hls r x hx with ⟨h0, ha0, ha1, hb0, hb1⟩ | ⟨cc, _, hxl, hxa, hxb⟩
      · rw [pcs_go hf h1 h2 h3 hx, pcs_go hg h1 h2 h3 hx, ih x.a.toNat (by omega) (f := f - 1) (g := g - 1) (by omega) (by omega), ih x.b.toNat (by omega) (f := f - 1) (g := g - 1) (by omega) (by omega)]
      · exfalso
        have h0 : x.l.size ≠ 0 := by rw [hxl]; show (1 : Nat) ≠ 0; omega
        have := lens_let hls hx h0
        apply h3
        omega
def takeV (b0 : Nat) : Value := .func (.func 85) #[] #[.pointer (some ⟨b0 + 1, 0, none⟩), .pointer (some ⟨b0 + 2, 0, none⟩), .pointer (some ⟨b0 + 3, 0, none⟩), .pointer (some ⟨b0 + 4, 0, none⟩), .pointer (some ⟨b0, 0, none⟩), .pointer (some ⟨b0 + 5, 0, none⟩)]
/-- the boxes of 'pieces', and the lists that it reads -/
def PEnv (B b0 : Nat) (A : Option Addr) (n c : Nat) (rs : List Fac) (A2 : Option Addr) (c2 : Nat) (ls : List Int) (i j : Int) (fp : Nat) (cp : Array Value) (w : World) : Prop :=
  Blk w b0 26 #[.slice A n c] ∧ Blk w (b0 + 1) 46 #[.slice A2 n c2] ∧ Blk w (b0 + 2) 2 #[.int .i64 i] ∧ Blk w (b0 + 3) 2 #[.int .i64 j] ∧
    Blk w (b0 + 4) 85 #[.func (.func fp) #[] cp] ∧ Blk w (b0 + 5) 116 #[takeV b0] ∧ Rd w B A n 3 Fac.cells rs ∧ Rd w B A2 n 1 intE ls
section
variable {B b0 : Nat} {A : Option Addr} {n c : Nat} {rs : List Fac} {A2 : Option Addr} {c2 : Nat} {ls : List Int} {i j : Int} {fp : Nat} {cp : Array Value} {w w' : World}
theorem PEnv.next (h : PEnv B b0 A n c rs A2 c2 ls i j fp cp w) (hB : B ≤ b0) (hb : Below w.heap.size w w') : PEnv B b0 A n c rs A2 c2 ls i j fp cp w' := by
  obtain ⟨h0, h1, h2, h3, h4, h5, h6, h7⟩ := h
  have := h0.lt
  exact ⟨h0.next hb, h1.next hb, h2.next hb, h3.next hb, h4.next hb, h5.next hb, h6.next' (by omega) hb, h7.next' (by omega) hb⟩
theorem PEnv.grown {ob : Nat} (h : PEnv B b0 A n c rs A2 c2 ls i j fp cp w) (hB : B ≤ ob) (ho : ob < b0) (hb : w.grownBy w' (some ob)) : PEnv B b0 A n c rs A2 c2 ls i j fp cp w' := by
  obtain ⟨h0, h1, h2, h3, h4, h5, h6, h7⟩ := h
  have := h0.lt
  have ne : ∀ k, b0 ≤ k → some k ≠ some ob := fun k hk e => by injection e with e; omega
  exact ⟨h0.grown hb (ne _ (by omega)), h1.grown hb (ne _ (by omega)), h2.grown hb (ne _ (by omega)), h3.grown hb (ne _ (by omega)), h4.grown hb (ne _ (by omega)), h5.grown hb (ne _ (by omega)),
    h6.grown (by omega) hb (fun k hk => by injection hk with hk; omega), h7.grown (by omega) hb (fun k hk => by injection hk with hk; omega)⟩
end
section
variable {S : Type} (Inv : S → World → Prop) (step : S → Nat → S) (hI : ∀ s w w', Inv s w → Below w.heap.size w w' → Inv s w') (B ob b0 : Nat) (hBo : B ≤ ob) (hob : ob < b0) (A : Option Addr) (n c : Nat) (rs : List Fac) (A2 : Option Addr) (c2 : Nat) (ls : List Int) (i j : Int)
  (fp : Nat) (ep : EnterOk fp) (cp : Array Value) (hn : n ≤ 1048576) (hls : gLens rs [] = some ls)
  (hW : ∀ (s : S) (k : Nat) (w : World), k < n → Inv s w → Calls Try.prog fp (#[.int .i64 (k : Int)] ++ cp) w (fun e w' => e = .returned (.tuple #[]) ∧ w.grownBy w' (some ob) ∧ Inv (step s k) w'))
include hI hBo hob ep hn hls hW
omit hn in
set_option maxHeartbeats 1000000 in
set_option maxRecDepth 100000 in
theorem take_any : ∀ (r : Nat) (a : Int) (s : S) (w : World), r < n → 0 ≤ a → a + ls.getD r 0 ≤ 1000000000000000 → PEnv B b0 A n c rs A2 c2 ls i j fp cp w → Inv s w →
    Calls Try.prog 85 #[.int .i64 (r : Int), .int .i64 a, .pointer (some ⟨b0 + 1, 0, none⟩), .pointer (some ⟨b0 + 2, 0, none⟩), .pointer (some ⟨b0 + 3, 0, none⟩), .pointer (some ⟨b0 + 4, 0, none⟩), .pointer (some ⟨b0, 0, none⟩), .pointer (some ⟨b0 + 5, 0, none⟩)] w
      (fun e w' => e = .returned (.tuple #[]) ∧ w.grownBy w' (some ob) ∧ Inv ((pcs ls rs i j (r + 1) r a).foldl step s) w') := by
  intro r
  induction r using Nat.strongRecOn with
  | ind r ih =>
    intro a s w hr ha ha2 hE hS
    have IH := Lib.hid ih; clear ih
    have HW := Lib.hid hW
    have HI := Lib.hid hI
    have HE := Lib.hid hE
    have HS := Lib.hid hS
    have HL := Lib.hid hls
    obtain ⟨e0, e1, e2, e3, e4, e5, e6, e7⟩ := hE
    have hl := Lib.hid e6.len
    have z0 := e0.lt; have z1 := e1.lt; have z2 := e2.lt; have z3 := e3.lt; have z4 := e4.lt; have z5 := e5.lt
    have d0 := e0.cell 0; have d1 := e1.cell 0; have d2 := e2.cell 0; have d3 := e3.cell 0; have d4 := e4.cell 0; have d5 := e5.cell 0
    have hBs : B ≤ w.heap.size := by omega
    have d5' : w.cell? ⟨b0 + 5, 0, none⟩ = some (takeV b0) := d5
    clear d5
    unfold takeV at d5'
    obtain ⟨p2, o2, rfl, hB2, c2'⟩ := (e7.more hBs).i64 (k := r) hr
    obtain ⟨b, o, x, rfl, hB1, gx, c00, c01, c02⟩ := (e6.more hBs).fac hr
    have lb := lens_bound HL.out (i := r) (by rw [hl.out]; exact hr)
    have Gx := Lib.hid gx
    clear hS e0 e1 e2 e3 e4 e5 e6 e7 hW hI gx
    have et := enterOk Try.func85 (by kernel_rfl) (by kernel_rfl)
    unfold EnterOk at et
    have ep' := ep
    unfold EnterOk at ep'
    generalize hlr : ls.getD r 0 = lr at *
    obtain ⟨lb0, lb1⟩ := lb
    have u1 : IntKind.i64.wrap (a + lr) = a + lr := IntWalk.i64_in _ (by omega)
    have i1 : (0 : Int) ≤ (r : Int) := by omega
    have i2 : (r : Int) < n := by omega
    by_cases h1 : a + lr ≤ i
    · have e := Lib.hid (show pcs ls rs i j (r + 1) r a = [] from pcs_out1 (by rw [hlr]; exact h1))
      go_enter Try.func85, Try.ntmps85
      go_wp2_with fail
      refine bodyPost_ret (results_none rfl _ _ _) rfl ?_
      exact ⟨rfl, gb_below (Below.refl _ _), by rw [e.out]; exact HS.out⟩
    by_cases h2 : j ≤ a
    · have e := Lib.hid (show pcs ls rs i j (r + 1) r a = [] from pcs_out2 h2)
      go_enter Try.func85, Try.ntmps85
      go_wp2_with fail
      refine bodyPost_ret (results_none rfl _ _ _) rfl ?_
      exact ⟨rfl, gb_below (Below.refl _ _), by rw [e.out]; exact HS.out⟩
    by_cases h3 : i ≤ a ∧ a + lr ≤ j
    · have e := Lib.hid (show pcs ls rs i j (r + 1) r a = [r] from pcs_in (by omega) (by rw [hlr]; exact h1) h2 h3.1 (by rw [hlr]; exact h3.2))
      obtain ⟨h30, h31⟩ := h3
      go_enter Try.func85, Try.ntmps85
      go_wp2_with fail
      refine (HW.out s r w hr HS.out).mono ?_
      rintro e1 w1 ⟨rfl, hg1, hs1⟩
      go_wp2_with fail
      refine bodyPost_ret (results_none rfl _ _ _) rfl ?_
      exact ⟨rfl, hg1, by rw [e.out]; exact hs1⟩
    · have e := Lib.hid (show pcs ls rs i j (r + 1) r a = _ from pcs_go (by omega) (by rw [hlr]; exact h1) h2 (by rw [hlr]; exact h3) Gx.out)
      rw [Nat.add_sub_cancel] at e
      rcases wf_of HL.out r x Gx.out with ⟨h0, ha0, ha1, hb0', hb1'⟩ | ⟨cc, _, hxl, _⟩
      case inr =>
        exfalso
        have h0 : x.l.size ≠ 0 := by rw [hxl]; show (1 : Nat) ≠ 0; omega
        have := lens_let HL.out Gx.out h0
        apply h3
        omega
      have lp := lens_pair HL.out Gx.out h0
      have lb2 := lens_bound HL.out (i := x.a.toNat) (by rw [hl.out]; omega)
      have lb3 := lens_bound HL.out (i := x.b.toNat) (by rw [hl.out]; omega)
      have hnot : i ≤ a → ¬ (a + lr ≤ j) := fun h4 h5 => h3 ⟨h4, h5⟩
      by_cases h4 : i ≤ a
      all_goals
        try have h5 := hnot h4
        clear hnot h3
        go_enter Try.func85, Try.ntmps85
        go_wp2_with fail
        refine namedC fun w1 H1 => ?_
        have hb1 : Below w.heap.size w w1 := by rw [H1.out]; (repeat first | exact Below.refl _ _ | assumption | refine Below.drew ?_ | refine Below.alloc ?_ (by first | exact Nat.le_refl _ | (simp; done) | omega | (simp; omega)) _ | refine Below.setCell ?_ (by first | exact Nat.le_refl _ | (simp; done) | omega | (simp; omega)) _)
        have BX := Lib.hid (show Blk w1 w.heap.size 82 #[.string x.l, .int .i64 x.a, .int .i64 x.b] by rw [H1.out]; exact Blk.new _ _ _)
        clear H1
        have hx0 := Lib.hid (IH.out x.a.toNat (by omega) a s w1 (by omega) ha (by omega) (HE.out.next (by omega) hb1) (HI.out s w w1 HS.out hb1))
        rw [show ((x.a.toNat : Nat) : Int) = x.a by omega] at hx0
        refine hx0.out.mono ?_
        rintro e1 w2 ⟨rfl, hg2, hs2⟩
        have G2 := Lib.hid (gb_trans (gb_below hb1 (r := some ob)) hg2)
        have HS2 := Lib.hid hs2
        have HE2 := Lib.hid ((HE.out.next (by omega) hb1).grown hBo hob hg2)
        have BX2 := BX.out.grown hg2 (by intro e; injection e with e; omega)
        have BX3 := Lib.hid BX2
        have zx := BX2.lt
        clear hs2 hg2 BX2 d0 d1 d2 d3 d4 d5' c00 c01 c02 c2'
        obtain ⟨e0, e1, e2, e3, e4, e5, e6, e7⟩ := HE2.out
        have z0' := e0.lt; have z1' := e1.lt; have z5' := e5.lt
        have d1 := e1.cell 0
        have d5 : w2.cell? ⟨b0 + 5, 0, none⟩ = some (takeV b0) := e5.cell 0
        unfold takeV at d5
        have hBs2 : B ≤ w2.heap.size := by omega
        obtain ⟨p9, o9, hA9, hB9, c9⟩ := (e7.more hBs2).i64 (k := x.a.toNat) (by omega)
        obtain ⟨rfl, rfl⟩ : p2 = p9 ∧ o2 = o9 := by injection hA9 with hA9; injection hA9 with h1 h2; exact ⟨h1, h2⟩
        have hx1 := Lib.hid (IH.out x.b.toNat (by omega) (a + ls.getD x.a.toNat 0) ((pcs ls rs i j (x.a.toNat + 1) x.a.toNat a).foldl step s) w2.drew (by omega) (by omega) (by omega) (HE2.out.next (by omega) (Below.refl _ _).drew) (HI.out _ _ _ HS2.out (Below.refl _ _).drew))
        rw [show ((x.b.toNat : Nat) : Int) = x.b by omega] at hx1
        have ef := Lib.hid (show (pcs ls rs i j (r + 1) r a).foldl step s = (pcs ls rs i j (x.b.toNat + 1) x.b.toNat (a + ls.getD x.a.toNat 0)).foldl step ((pcs ls rs i j (x.a.toNat + 1) x.a.toNat a).foldl step s) by
          rw [e.out, List.foldl_append, pcs_fuel HL.out (f := r) (g := x.a.toNat + 1) (by omega) (by omega), pcs_fuel HL.out (f := r) (g := x.b.toNat + 1) (by omega) (by omega)])
        generalize hy : ls.getD x.a.toNat 0 = y at *
        have u2 : IntKind.i64.wrap (a + y) = a + y := IntWalk.i64_in _ (by omega)
        have i5 : x.a < (n : Int) := by omega
        have D1 := Lib.hid d1; have D5 := Lib.hid d5; have C9 := Lib.hid c9
        have Hn4 := Lib.hid (show some p2 ≠ some ob from by
          obtain ⟨p9, o9, hA9, hB9', _⟩ := e7.i64 (k := x.a.toNat) (by omega)
          injection hA9 with hA9; injection hA9 with h1 h2
          intro e; injection e with e; omega)
        clear d1 d5 c9
        clear e0 e1 e2 e3 e4 e5 e6 e7 hA9 hx0 h1 h2 lp lb2 lb3 u1 hy hlr lb0 lb1 ha2 h4
        try clear h5
        clear IH HW HI HE HS HL BX e
        go_wp2_with fail
        have d1 := D1.out; have d5 := D5.out; have c9 := C9.out
        obtain ⟨x0, x1, x2⟩ := BX3.out.three
        have n1 : some w.heap.size ≠ some ob := by intro e; injection e with e; omega
        have n2 : some (b0 + 1) ≠ some ob := by intro e; injection e with e; omega
        have n3 : some (b0 + 5) ≠ some ob := by intro e; injection e with e; omega
        have n4 : some p2 ≠ some ob := Hn4.out
        go_region_held3 (fun w' => w'.cell? ⟨w.heap.size, 1, none⟩ = some (.int .i64 x.a) ∧ w'.cell? ⟨w.heap.size, 2, none⟩ = some (.int .i64 x.b) ∧ w'.cell? ⟨b0 + 1, 0, none⟩ = some (.slice (some ⟨p2, o2, none⟩) n c2) ∧
            w'.cell? ⟨b0 + 5, 0, none⟩ = some (.func (.func 85) #[] #[.pointer (some ⟨b0 + 1, 0, none⟩), .pointer (some ⟨b0 + 2, 0, none⟩), .pointer (some ⟨b0 + 3, 0, none⟩), .pointer (some ⟨b0 + 4, 0, none⟩), .pointer (some ⟨b0, 0, none⟩), .pointer (some ⟨b0 + 5, 0, none⟩)]) ∧
            w'.cell? ⟨p2, o2 + x.a.toNat, none⟩ = some (.int .i64 y))
          (first | exact ⟨s0, s1, s2, s3, s4⟩ | exact ⟨x1, x2, d1, d5, c9⟩ | go_keep)
          (first
            | (go_at_call 85
               refine hx1.out.mono ?_
               rintro e9 w3 ⟨rfl, hg3, hs3⟩
               have G3 := Lib.hid (gb_trans G2.out (gb_trans (gb_below (Below.refl w2.heap.size w2).drew (r := some ob)) hg3))
               have s0 : w3.cell? ⟨w.heap.size, 1, none⟩ = some (.int .i64 x.a) := (hg3.cell_far ⟨w.heap.size, 1, none⟩ zx n1).trans x1
               have s1 : w3.cell? ⟨w.heap.size, 2, none⟩ = some (.int .i64 x.b) := (hg3.cell_far ⟨w.heap.size, 2, none⟩ zx n1).trans x2
               have s2 : w3.cell? ⟨b0 + 1, 0, none⟩ = some (.slice (some ⟨p2, o2, none⟩) n c2) := (hg3.cell_far ⟨b0 + 1, 0, none⟩ z1' n2).trans d1
               have s3 := (hg3.cell_far ⟨b0 + 5, 0, none⟩ z5' n3).trans d5
               have s4 : w3.cell? ⟨p2, o2 + x.a.toNat, none⟩ = some (.int .i64 y) := (hg3.cell_far ⟨p2, o2 + x.a.toNat, none⟩ hB9 n4).trans c9
               have HS3 := Lib.hid hs3
               clear hg3 hs3)
            | fail)
        go_wp2_with fail
        go_end0
        exact ⟨rfl, G3.out, by rw [ef.out]; exact HS3.out⟩
/-- the rules that are met, from the last one on -/
def pcsT (ls : List Int) (rs : List Fac) (i j : Int) : List Nat := if 0 < rs.length ∧ i < j then pcs ls rs i j rs.length (rs.length - 1) 0 else []
set_option maxHeartbeats 1000000 in
set_option maxRecDepth 100000 in
theorem pieces_any (s : S) (w : World) (hw : w.heap.size = b0) (hA : Rd w B A n 3 Fac.cells rs) (hA2 : Rd w B A2 n 1 intE ls) (hS : Inv s w) :
    Calls Try.prog 53 #[.agg #[.slice A n c], .slice A2 n c2, .int .i64 i, .int .i64 j, .func (.func fp) #[] cp] w
      (fun e w' => e = .returned (.tuple #[]) ∧ w.grownBy w' (some ob) ∧ Inv ((pcsT ls rs i j).foldl step s) w') := by
  have HW := Lib.hid hW
  have HI := Lib.hid hI
  have HS := Lib.hid hS
  have HL := Lib.hid hls
  have hl := Lib.hid hA.len
  have HA := Lib.hid hA
  have HA2 := Lib.hid hA2
  subst hw
  clear hW hI hS hA hA2 hls
  have et := enterOk Try.func85 (by kernel_rfl) (by kernel_rfl)
  unfold EnterOk at et
  by_cases h0 : n = 0
  · have e := Lib.hid (show pcsT ls rs i j = [] by unfold pcsT; rw [if_neg (by rw [hl.out]; omega)])
    subst h0
    go_enter Try.func53, Try.ntmps53
    go_wp2_with fail
    go_end0
    rw [e.out]
    refine ⟨rfl, gb_below (by (repeat first | exact Below.refl _ _ | assumption | refine Below.drew ?_ | refine Below.alloc ?_ (by first | exact Nat.le_refl _ | (simp; done) | omega | (simp; omega)) _ | refine Below.setCell ?_ (by first | exact Nat.le_refl _ | (simp; done) | omega | (simp; omega)) _)), HI.out _ _ _ HS.out (by (repeat first | exact Below.refl _ _ | assumption | refine Below.drew ?_ | refine Below.alloc ?_ (by first | exact Nat.le_refl _ | (simp; done) | omega | (simp; omega)) _ | refine Below.setCell ?_ (by first | exact Nat.le_refl _ | (simp; done) | omega | (simp; omega)) _))⟩
  by_cases hij : i < j
  · have e := Lib.hid (show pcsT ls rs i j = pcs ls rs i j (n - 1 + 1) (n - 1) 0 by unfold pcsT; rw [if_pos (by rw [hl.out]; omega), hl.out, show n - 1 + 1 = n by omega])
    have h1 : 0 < n := by omega
    have u0 : IntKind.i64.wrap ((n : Int) - 1) = (n : Int) - 1 := IntWalk.i64_in _ (by omega)
    have hlb := lens_bound HL.out (i := n - 1) (by rw [hl.out]; omega)
    go_enter Try.func53, Try.ntmps53
    go_wp2_with fail
    refine namedC fun w1 H1 => ?_
    have hb1 : Below w.heap.size w w1 := by rw [H1.out]; (repeat first | exact Below.refl _ _ | assumption | refine Below.drew ?_ | refine Below.alloc ?_ (by first | exact Nat.le_refl _ | (simp; done) | omega | (simp; omega)) _ | refine Below.setCell ?_ (by first | exact Nat.le_refl _ | (simp; done) | omega | (simp; omega)) _)
    have hE : PEnv B w.heap.size A n c rs A2 c2 ls i j fp cp w1 := by
      refine ⟨?_, ?_, ?_, ?_, ?_, ?_, (HA.out.next' (by omega) hb1), (HA2.out.next' (by omega) hb1)⟩
      · rw [H1.out]; exact (((((Blk.new w _ _).alloc _).alloc _).alloc _).alloc _).alloc _
      · rw [H1.out]; simpa using ((((Blk.new (w.alloc _) _ _).alloc _).alloc _).alloc _).alloc _
      · rw [H1.out]; simpa using (((Blk.new ((w.alloc _).alloc _) _ _).alloc _).alloc _).alloc _
      · rw [H1.out]; simpa using ((Blk.new (((w.alloc _).alloc _).alloc _) _ _).alloc _).alloc _
      · rw [H1.out]; simpa using (Blk.new ((((w.alloc _).alloc _).alloc _).alloc _) _ _).alloc _
      · rw [H1.out]; simpa [takeV] using Blk.new (((((w.alloc _).alloc _).alloc _).alloc _).alloc _) _ _
    have hE' := Lib.hid hE
    clear hE H1
    have ht := take_any Inv step HI.out B ob w.heap.size hBo hob A n c rs A2 c2 ls i j fp ep cp HL.out HW.out (n - 1) 0 s w1 (by omega) (by omega) (by omega) hE'.out (HI.out _ _ _ HS.out hb1)
    rw [show ((n - 1 : Nat) : Int) = (n : Int) - 1 by omega] at ht
    refine (by simpa [Nat.add_assoc] using ht : Calls _ _ _ _ _).mono ?_
    rintro e1 w2 ⟨rfl, hg2, hs2⟩
    have G2 := Lib.hid (gb_trans (gb_below hb1 (r := some ob)) hg2)
    have HS2 := Lib.hid hs2
    clear hg2 hs2 ht
    go_wp2_with fail
    go_end0
    exact ⟨rfl, G2.out, by rw [e.out]; exact HS2.out⟩
  · have e := Lib.hid (show pcsT ls rs i j = [] by unfold pcsT; rw [if_neg (by omega)])
    have h1 : 0 < n := by omega
    go_enter Try.func53, Try.ntmps53
    go_wp2_with fail
    go_end0
    rw [e.out]
    refine ⟨rfl, gb_below (by (repeat first | exact Below.refl _ _ | assumption | refine Below.drew ?_ | refine Below.alloc ?_ (by first | exact Nat.le_refl _ | (simp; done) | omega | (simp; omega)) _ | refine Below.setCell ?_ (by first | exact Nat.le_refl _ | (simp; done) | omega | (simp; omega)) _)), HI.out _ _ _ HS.out (by (repeat first | exact Below.refl _ _ | assumption | refine Below.drew ?_ | refine Below.alloc ?_ (by first | exact Nat.le_refl _ | (simp; done) | omega | (simp; omega)) _ | refine Below.setCell ?_ (by first | exact Nat.le_refl _ | (simp; done) | omega | (simp; omega)) _))⟩
end
end Go.Proofs.Ytgdbpkpaacbhhaa


/-
  PlaceSum in the program and in the reference.
-/
namespace Go.Proofs.Ytgdbpkpaacbhhaa
open Go.RowKit

theorem emod_b {a m : Int} (hm : 0 < m) : 0 ≤ a % m ∧ a % m < m := ⟨Int.emod_nonneg a (by omega), Int.emod_lt_of_pos a hm⟩
theorem mul_b {a b : Int} (h0 : 0 ≤ a) (h1 : a ≤ 1000000000) (h2 : 0 ≤ b) (h3 : b ≤ 1000000000) : 0 ≤ a * b ∧ a * b ≤ 1000000000000000000 := by
  refine ⟨Int.mul_nonneg h0 h2, ?_⟩
  have := Int.mul_le_mul h1 h3 h2 (show (0 : Int) ≤ 1000000000 by omega)
  omega
def plF (_ : Nat) : Int := 0
def plG (ls : List Int) (cs : List Q4) (l : Nat) (m : Int) (x y : Int) (r : Fac) : Int := (x + y + (ls.getD r.a.toNat 0) % m * (((cs.getD r.b.toNat Q4.nil).at_ l) % m)) % m
theorem pl_prod {rs : List Fac} {ls : List Int} (hls : gLens rs [] = some ls) {m : Int} (h1 : 1 ≤ m) (h2 : m ≤ 1000000000) {i j : Nat} (hi : i < rs.length) (hj : j < rs.length) (l : Nat) :
    0 ≤ (ls.getD i 0) % m * ((((cnts rs).getD j Q4.nil).at_ l) % m) ∧ (ls.getD i 0) % m * ((((cnts rs).getD j Q4.nil).at_ l) % m) ≤ 1000000000000000000 := by
  have a1 := lens_bound hls hi
  have a2 := cnt_at hls hj l
  have b1 := emod_b (a := ls.getD i 0) (m := m) (by omega)
  have b2 := emod_b (a := ((cnts rs).getD j Q4.nil).at_ l) (m := m) (by omega)
  exact mul_b b1.1 (by omega) b2.1 (by omega)
theorem pl_bound {rs : List Fac} {ls : List Int} (hls : gLens rs [] = some ls) {l : Nat} {m : Int} (h1 : 1 ≤ m) (h2 : m ≤ 1000000000) {k : Nat} (hk : k < rs.length) :
    0 ≤ (full 0 plF (plG ls (cnts rs) l m) rs).getD k 0 ∧ (full 0 plF (plG ls (cnts rs) l m) rs).getD k 0 ≤ 1000000000 := by
  refine full_ind 0 plF (plG ls (cnts rs) l m) (wf_of hls) (fun _ x => 0 ≤ x ∧ x ≤ 1000000000) (fun k r _ _ => ?_) (fun k r a b hr h0 ha0 ha1 hb0 hb1 ha hb => ?_) k hk
  · show (0 : Int) ≤ 0 ∧ (0 : Int) ≤ 1000000000
    omega
  · have hk : k < rs.length := (List.getElem?_eq_some_iff.1 hr).1
    have p := pl_prod hls h1 h2 (i := r.a.toNat) (j := r.b.toNat) (by omega) (by omega) l
    have q := emod_b (a := a + b + (ls.getD r.a.toNat 0) % m * ((((cnts rs).getD r.b.toNat Q4.nil).at_ l) % m)) (m := m) (by omega)
    exact ⟨q.1, by show (a + b + _) % m ≤ _; omega⟩
def topI (F : Nat → Int) (G : Int → Int → Fac → Int) (rs : List Fac) : Int := if rs.length = 0 then 0 else (full 0 F G rs).getD (rs.length - 1) 0
def placeV (rs : List Fac) (s : ByteArray) (m : Int) : Value :=
  if (gOk rs).isSome = false then tup2 0 1 else if letT s = false then tup2 0 1 else if inB m 1 1000000000 = false then tup2 0 2
  else tup2 (topI plF (plG ((gLens rs []).getD []) (cnts rs) (letN s) m) rs) 0
theorem placeV_form (rs : List Fac) (s : ByteArray) (m : Int) : ∃ b k, placeV rs s m = .tuple #[.int .i64 b, .int .i64 k] := by
  unfold placeV
  split
  · exact ⟨_, _, rfl⟩
  split
  · exact ⟨_, _, rfl⟩
  split
  · exact ⟨_, _, rfl⟩
  · exact ⟨_, _, rfl⟩
theorem Rd.q4 {w : World} {B n : Nat} {A : Option Addr} {xs : List Q4} {k : Nat} (h : Rd w B A n 4 encQ4 xs) (hk : k < n) {l : Nat} (hl : l < 4) :
    ∃ b o, A = some ⟨b, o, none⟩ ∧ b < B ∧ w.cell? ⟨b, o + k * 4 + l, none⟩ = some (.int .i64 ((xs.getD k Q4.nil).at_ l)) := by
  obtain ⟨b, o, hA, hb, x, hx, hc⟩ := h.at_ hk
  refine ⟨b, o, hA, hb, ?_⟩
  rw [hc l _ (encQ4_at x hl), List.getD_eq_getElem?_getD, hx]; rfl
theorem placeV1 {rs : List Fac} {s : ByteArray} {m : Int} (h : (gOk rs).isSome = false) : placeV rs s m = tup2 0 1 := by unfold placeV; rw [if_pos h]
theorem placeV2 {rs : List Fac} {s : ByteArray} {m : Int} (h : (gOk rs).isSome = true) (h2 : letT s = false) : placeV rs s m = tup2 0 1 := by unfold placeV; rw [if_neg (by rw [h]; decide), if_pos h2]
theorem placeV3 {rs : List Fac} {s : ByteArray} {m : Int} (h : (gOk rs).isSome = true) (h2 : letT s = true) (h3 : inB m 1 1000000000 = false) : placeV rs s m = tup2 0 2 := by unfold placeV; rw [if_neg (by rw [h]; decide), if_neg (by rw [h2]; decide), if_pos h3]
theorem placeV4 {rs : List Fac} {ls : List Int} {s : ByteArray} {m : Int} (hls : gLens rs [] = some ls) (h : (gOk rs).isSome = true) (h2 : letT s = true) (h3 : inB m 1 1000000000 = true) : placeV rs s m = tup2 (topI plF (plG ls (cnts rs) (letN s) m) rs) 0 := by
  unfold placeV; rw [if_neg (by rw [h]; decide), if_neg (by rw [h2]; decide), if_neg (by rw [h3]; decide), hls]; rfl
theorem top_topI (F : Nat → Int) (G : Int → Int → Fac → Int) (rs : List Fac) : (foldAll 0 F G 0 rs).getD ((foldAll 0 F G 0 rs).length - 1) 0 = topI F G rs := foldAll_top _ _ _ _ rs
theorem isMod_any (m : Int) (b : Bool) (w : World) (hb : inB m 1 1000000000 = b) : Calls Try.prog 46 #[.int .i64 m] w (Ret (.bool b) w) := by
  have Hb := Lib.hid hb; clear hb
  go_enter Try.func46, Try.ntmps46
  go_wp2_with fail
  refine (within_any m 1 1000000000 b _ Hb.out).mono ?_
  rintro e w1 ⟨rfl, hb1⟩
  go_wp2_with fail
  go_ret
  exact ⟨rfl, hb1⟩
theorem elemI : Elem Try.prog 46 2 1 8 := Elem.mk' (z := .int .i64 0) Try.underlying46 (by kernel_rfl) rfl
end Go.Proofs.Ytgdbpkpaacbhhaa


/-
  Sums over the rules that are met for a beginning of the word.
-/
namespace Go.Proofs.Ytgdbpkpaacbhhaa
open Go.RowKit

/-- the sum of values for the first letters of a rule's word -/
def rk (v : Nat → Int) (ls : List Int) (rs : List Fac) : Nat → Nat → Int → Int
  | 0, _, _ => 0
  | f + 1, r, m =>
    if m ≤ 0 then 0 else if ls.getD r 0 ≤ m then v r else
    match rs[r]? with
    | none => 0
    | some x => rk v ls rs f x.a.toNat m + rk v ls rs f x.b.toNat (m - ls.getD x.a.toNat 0)
section
variable {v : Nat → Int} {ls : List Int} {rs : List Fac}
theorem rk_zero {f r : Nat} {m : Int} (h : m ≤ 0) : rk v ls rs f r m = 0 := by
  cases f with
  | zero => rfl
  | succ f => rw [rk, if_pos h]
theorem rk_full {f r : Nat} {m : Int} (hf : r < f) (h0 : 0 < m) (h : ls.getD r 0 ≤ m) : rk v ls rs f r m = v r := by
  obtain ⟨g, rfl⟩ : ∃ g, f = g + 1 := ⟨f - 1, by omega⟩
  rw [rk, if_neg (by omega), if_pos h]
theorem rk_go {f r : Nat} {m : Int} {x : Fac} (hf : r < f) (h0 : 0 < m) (h : m < ls.getD r 0) (hx : rs[r]? = some x) : rk v ls rs f r m = rk v ls rs (f - 1) x.a.toNat m + rk v ls rs (f - 1) x.b.toNat (m - ls.getD x.a.toNat 0) := by
  obtain ⟨g, rfl⟩ : ∃ g, f = g + 1 := ⟨f - 1, by omega⟩
  rw [rk, if_neg (by omega), if_neg (by omega), hx]
  rfl
def sumL (v : Nat → Int) : List Nat → Int
  | [] => 0
  | k :: r => v k + sumL v r
theorem sumL_app (v : Nat → Int) : ∀ a b : List Nat, sumL v (a ++ b) = sumL v a + sumL v b
  | [], b => by simp [sumL]
  | k :: r, b => by simp only [List.cons_append, sumL, sumL_app v r b]; omega
theorem pcs_sum (hls : gLens rs [] = some ls) (j : Int) : ∀ (f r : Nat) (a : Int), r < rs.length → 0 ≤ a → sumL v (pcs ls rs 0 j f r a) = rk v ls rs f r (j - a)
  | 0, _, _, _, _ => rfl
  | f + 1, r, a, hr, ha => by
    have lb := lens_bound hls hr
    rw [pcs, rk, if_neg (show ¬ a + ls.getD r 0 ≤ 0 by omega)]
    by_cases h2 : j ≤ a
    · rw [if_pos h2, if_pos (show j - a ≤ 0 by omega)]; rfl
    rw [if_neg h2, if_neg (show ¬ j - a ≤ 0 by omega)]
    by_cases h3 : a + ls.getD r 0 ≤ j
    · rw [if_pos (show 0 ≤ a ∧ a + ls.getD r 0 ≤ j from ⟨ha, h3⟩), if_pos (show ls.getD r 0 ≤ j - a by omega)]; simp [sumL]
    rw [if_neg (show ¬ (0 ≤ a ∧ a + ls.getD r 0 ≤ j) from fun h => h3 h.2), if_neg (show ¬ ls.getD r 0 ≤ j - a by omega)]
    have hx : rs[r]? = some (rs[r]'hr) := List.getElem?_eq_getElem _
    rw [hx]
    generalize rs[r]'hr = x at *
    have hab : x.a.toNat < rs.length ∧ x.b.toNat < rs.length := by
      rcases wf_of hls r x hx with ⟨_, h4, h5, h6, h7⟩ | ⟨_, _, _, h5, h6⟩
      · omega
      · rw [h5, h6]; show 0 < _ ∧ 0 < _; omega
    have lb2 := lens_bound hls hab.1
    show sumL v (pcs ls rs 0 j f x.a.toNat a ++ pcs ls rs 0 j f x.b.toNat (a + ls.getD x.a.toNat 0)) = _
    rw [sumL_app, pcs_sum hls j f _ a hab.1 ha, pcs_sum hls j f _ _ hab.2 (by omega), show j - (a + ls.getD x.a.toNat 0) = j - a - ls.getD x.a.toNat 0 by omega]
theorem rk_fuel (hls : gLens rs [] = some ls) : ∀ {r f g : Nat} {m : Int}, r < f → r < g → r < rs.length → rk v ls rs f r m = rk v ls rs g r m := by
  intro r
  induction r using Nat.strongRecOn with
  | ind r ih =>
    intro f g m hf hg hr
    by_cases h0 : m ≤ 0
    · rw [rk_zero h0, rk_zero h0]
    by_cases h1 : ls.getD r 0 ≤ m
    · rw [rk_full hf (by omega) h1, rk_full hg (by omega) h1]
    have hx : rs[r]? = some (rs[r]'hr) := List.getElem?_eq_getElem _
    generalize rs[r]'hr = x at *
    rcases wf_of hls r x hx with ⟨_, ha0, ha1, hb0, hb1⟩ | ⟨cc, _, hxl, _⟩
    · rw [rk_go hf (by omega) (by omega) hx, rk_go hg (by omega) (by omega) hx, ih x.a.toNat (by omega) (f := f - 1) (g := g - 1) (by omega) (by omega) (by omega), ih x.b.toNat (by omega) (f := f - 1) (g := g - 1) (by omega) (by omega) (by omega)]
    · exfalso
      have := lens_let hls hx (show x.l.size ≠ 0 by rw [hxl]; show (1 : Nat) ≠ 0; omega)
      omega
/-- between 0 and the length, where each value is -/
theorem rk_bound (hls : gLens rs [] = some ls) {c : Int} (hc : 0 ≤ c) (hv : ∀ k, k < rs.length → -(c * ls.getD k 0) ≤ v k ∧ v k ≤ c * ls.getD k 0) : ∀ (f r : Nat) (m : Int), r < rs.length → 0 ≤ m → -(c * m) ≤ rk v ls rs f r m ∧ rk v ls rs f r m ≤ c * m
  | 0, r, m, _, hm => by
    have := Int.mul_nonneg hc hm
    exact ⟨by show _ ≤ (0 : Int); omega, by show (0 : Int) ≤ _; omega⟩
  | f + 1, r, m, hr, hm => by
    have hcm := Int.mul_nonneg hc hm
    rw [rk]
    by_cases h0 : m ≤ 0
    · rw [if_pos h0]; omega
    rw [if_neg h0]
    by_cases h1 : ls.getD r 0 ≤ m
    · rw [if_pos h1]
      have := hv r hr
      have := Int.mul_le_mul_of_nonneg_left h1 hc
      omega
    rw [if_neg h1]
    have hx : rs[r]? = some (rs[r]'hr) := List.getElem?_eq_getElem _
    rw [hx]
    generalize rs[r]'hr = x at *
    have hab : x.a.toNat < rs.length ∧ x.b.toNat < rs.length := by
      rcases wf_of hls r x hx with ⟨_, h4, h5, h6, h7⟩ | ⟨_, _, _, h5, h6⟩
      · omega
      · rw [h5, h6]; show 0 < _ ∧ 0 < _; omega
    have lb2 := lens_bound hls hab.1
    show -(c * m) ≤ rk v ls rs f x.a.toNat m + rk v ls rs f x.b.toNat (m - ls.getD x.a.toNat 0) ∧ rk v ls rs f x.a.toNat m + rk v ls rs f x.b.toNat (m - ls.getD x.a.toNat 0) ≤ c * m
    by_cases h2 : m ≤ ls.getD x.a.toNat 0
    · rw [rk_zero (r := x.b.toNat) (show m - ls.getD x.a.toNat 0 ≤ 0 by omega)]
      have := rk_bound hls hc hv f x.a.toNat m hab.1 hm
      omega
    · have e1 : f = 0 ∨ rk v ls rs f x.a.toNat m = v x.a.toNat := by
        cases f with
        | zero => exact Or.inl rfl
        | succ f => right; rw [rk, if_neg h0, if_pos (by omega)]
      rcases e1 with e1 | e1
      · subst e1
        show -(c * m) ≤ (0 : Int) + 0 ∧ (0 : Int) + 0 ≤ c * m
        omega
      · rw [e1]
        have a1 := hv x.a.toNat hab.1
        have a2 := rk_bound hls hc hv f x.b.toNat (m - ls.getD x.a.toNat 0) hab.2 (by omega)
        rw [Int.mul_sub] at a2
        omega
end
theorem wrap_add (a b : Int) : wrap64 (wrap64 a + b) = wrap64 (a + b) := by unfold wrap64; omega
theorem wrap_in {a : Int} (h0 : -9223372036854775808 ≤ a) (h1 : a ≤ 9223372036854775807) : wrap64 a = a := by unfold wrap64; omega
theorem fold_wrap (v : Nat → Int) : ∀ (l : List Nat) (s : Int), -9223372036854775808 ≤ s → s ≤ 9223372036854775807 → l.foldl (fun s k => wrap64 (s + v k)) s = wrap64 (s + sumL v l)
  | [], s, h0, h1 => by simp only [List.foldl_nil, sumL, Int.add_zero]; rw [wrap_in h0 h1]
  | k :: r, s, h0, h1 => by
    rw [List.foldl_cons, fold_wrap v r _ (by unfold wrap64; omega) (by unfold wrap64; omega), wrap_add, sumL, Int.add_assoc]
/-- the whole sum -/
def rkT (v : Nat → Int) (ls : List Int) (rs : List Fac) (m : Int) : Int := if rs.length = 0 then 0 else rk v ls rs rs.length (rs.length - 1) m
theorem pcsT_sum {v : Nat → Int} {ls : List Int} {rs : List Fac} (hls : gLens rs [] = some ls) {m : Int} (hm : 0 ≤ m) : sumL v (pcsT ls rs 0 m) = rkT v ls rs m := by
  unfold pcsT rkT
  by_cases h0 : rs.length = 0
  · rw [if_neg (by omega), if_pos h0]; rfl
  rw [if_neg h0]
  by_cases h1 : 0 < m
  · rw [if_pos (by omega), pcs_sum hls m rs.length _ 0 (by omega) (by omega), Int.sub_zero]
  · rw [if_neg (by omega), rk_zero (by omega)]; rfl
theorem fold_pcsT {v : Nat → Int} {ls : List Int} {rs : List Fac} (hls : gLens rs [] = some ls) {m : Int} (hm : 0 ≤ m) {c : Int} (hc : 0 ≤ c) (hv : ∀ k, k < rs.length → -(c * ls.getD k 0) ≤ v k ∧ v k ≤ c * ls.getD k 0) (hb : c * m ≤ 9000000000000000000) :
    (pcsT ls rs 0 m).foldl (fun s k => wrap64 (s + v k)) 0 = rkT v ls rs m := by
  have h : -(c * m) ≤ rkT v ls rs m ∧ rkT v ls rs m ≤ c * m := by
    have := Int.mul_nonneg hc hm
    unfold rkT
    by_cases h0 : rs.length = 0
    · rw [if_pos h0]; omega
    · rw [if_neg h0]; exact rk_bound hls hc hv _ _ _ (by omega) hm
  rw [fold_wrap v _ 0 (by omega) (by omega), pcsT_sum hls hm, Int.zero_add, wrap_in (by omega) (by omega)]
end Go.Proofs.Ytgdbpkpaacbhhaa


/-
  RankOf in the program.
-/
namespace Go.Proofs.Ytgdbpkpaacbhhaa
open Go.RowKit

def rkV (rs : List Fac) (l : Nat) (k : Nat) : Int := ((cnts rs).getD k Q4.nil).at_ l
theorem rkV_bound {rs : List Fac} {ls : List Int} (hls : gLens rs [] = some ls) (l : Nat) : ∀ k, k < rs.length → -(1 * ls.getD k 0) ≤ rkV rs l k ∧ rkV rs l k ≤ 1 * ls.getD k 0 := fun k hk => by
  have := (cnt_bound hls hk).at_ l
  have := lens_bound hls hk
  unfold rkV
  omega
def rankV (rs : List Fac) (s : ByteArray) (m : Int) : Value :=
  if (gOk rs).isSome = false then tup2 0 1 else if letT s = false then tup2 0 1 else if inB m 0 (lastI ((gLens rs []).getD [])) = false then tup2 0 2
  else tup2 (rkT (rkV rs (letN s)) ((gLens rs []).getD []) rs m) 0
theorem rankV_form (rs : List Fac) (s : ByteArray) (m : Int) : ∃ b k, rankV rs s m = .tuple #[.int .i64 b, .int .i64 k] := by
  unfold rankV
  split
  · exact ⟨_, _, rfl⟩
  split
  · exact ⟨_, _, rfl⟩
  split
  · exact ⟨_, _, rfl⟩
  · exact ⟨_, _, rfl⟩
theorem rankV1 {rs : List Fac} {s : ByteArray} {m : Int} (h : (gOk rs).isSome = false) : rankV rs s m = tup2 0 1 := by unfold rankV; rw [if_pos h]
theorem rankV2 {rs : List Fac} {s : ByteArray} {m : Int} (h : (gOk rs).isSome = true) (h2 : letT s = false) : rankV rs s m = tup2 0 1 := by unfold rankV; rw [if_neg (by rw [h]; decide), if_pos h2]
theorem rankV3 {rs : List Fac} {ls : List Int} {s : ByteArray} {m : Int} (hls : gLens rs [] = some ls) (h : (gOk rs).isSome = true) (h2 : letT s = true) (h3 : inB m 0 (lastI ls) = false) : rankV rs s m = tup2 0 2 := by
  unfold rankV; rw [if_neg (by rw [h]; decide), if_neg (by rw [h2]; decide), hls, if_pos (show inB m 0 (lastI ((some ls).getD [])) = false from h3)]
theorem rankV4 {rs : List Fac} {ls : List Int} {s : ByteArray} {m : Int} (hls : gLens rs [] = some ls) (h : (gOk rs).isSome = true) (h2 : letT s = true) (h3 : inB m 0 (lastI ls) = true) : rankV rs s m = tup2 (rkT (rkV rs (letN s)) ls rs m) 0 := by
  have : ¬ inB m 0 (lastI (Option.getD (some ls) [])) = false := by show ¬ inB m 0 (lastI ls) = false; rw [h3]; decide
  unfold rankV; rw [if_neg (by rw [h]; decide), if_neg (by rw [h2]; decide), hls, if_neg this]; rfl
theorem lastI_bound {rs : List Fac} {ls : List Int} (hls : gLens rs [] = some ls) (hl : ls.length = rs.length) : 0 ≤ lastI ls ∧ lastI ls ≤ 1000000000000000 := by
  unfold lastI
  by_cases h0 : rs.length = 0
  · rw [List.eq_nil_of_length_eq_zero (hl.trans h0)]; show (0 : Int) ≤ 0 ∧ (0 : Int) ≤ 1000000000000000; omega
  · have := lens_bound hls (i := ls.length - 1) (by omega)
    omega
end Go.Proofs.Ytgdbpkpaacbhhaa


/-
  RankOf in the reference.
-/
namespace Go.Proofs.Ytgdbpkpaacbhhaa
open Go.RowKit

set_option maxHeartbeats 2000000 in
set_option maxRecDepth 100000 in
theorem l05Rank_any (gb : Nat) (A : Option Addr) (n c : Nat) (rs : List Fac) (A2 : Option Addr) (c2 : Nat) (A3 : Option Addr) (c3 : Nat) (ls : List Int) (l : Nat) (m0 : Int) (w : World) (hg : gb < w.heap.size) (hc : w.cell? ⟨gb, 0, none⟩ = some (.slice A n c)) (hn : n ≤ 1048576) (hr : Rd w w.heap.size A n 3 Fac.cells rs)
    (hls : gLens rs [] = some ls) (hll : ls.length = rs.length) (h2 : Rd w w.heap.size A2 n 1 intE ls) (hT : Tab w w.heap.size A3 n (cnts rs)) (hl4 : l < 4) (hm0 : 0 ≤ m0) (hm1 : m0 ≤ lastI ls) :
    Calls Try.prog 77 #[.pointer (some ⟨gb, 0, none⟩), .slice A2 n c2, .slice A3 n c3, .int .i64 (l : Int), .int .i64 m0] w (Ret (.int .i64 (rkT (rkV rs l) ls rs m0)) w) := by
  have hl := Lib.hid hr.len
  have R2 := Lib.hid hr; clear hr
  have HL := Lib.hid hls; clear hls
  have Hll := Lib.hid hll; clear hll
  have r22 := Lib.hid h2; clear h2
  have T2 := Lib.hid hT; clear hT
  have HW := Lib.hid (wf_of HL.out)
  have HV := Lib.hid (rkV_bound HL.out l)
  by_cases h0 : m0 ≤ 0
  · have e := Lib.hid (show rkT (rkV rs l) ls rs m0 = 0 by unfold rkT; split; rfl; exact rk_zero h0)
    obtain rfl : m0 = 0 := by omega
    rw [e.out]
    go_enter Try.func77, Try.ntmps77
    go_wp2_with fail
    go_loopw [4, 11] (fun m_ s_ w' => m_ = .int .i64 0 ∧ s_ = .int .i64 0 ∧ w' = w) (fun _ _ _ => 0)
    case atStart => exact ⟨rfl, rfl, rfl⟩
    case round =>
      obtain ⟨rfl, rfl, rfl⟩ := hrel
      go_wp2_with fail
      go_ret
      exact ⟨rfl, Below.refl _ _⟩
  have hpos : 0 < rs.length := by
    rcases Nat.eq_zero_or_pos rs.length with h | h
    · exfalso
      unfold lastI at hm1
      rw [List.eq_nil_of_length_eq_zero (Hll.out.trans h)] at hm1
      have : m0 ≤ 0 := hm1
      omega
    · exact h
  have hm2 : m0 ≤ ls.getD (n - 1) 0 := by
    unfold lastI at hm1
    rw [Hll.out, hl.out] at hm1
    exact hm1
  have e := Lib.hid (show rkT (rkV rs l) ls rs m0 = rk (rkV rs l) ls rs n (n - 1) m0 by unfold rkT; rw [if_neg (by omega), hl.out])
  rw [e.out]
  rw [hl.out] at hpos
  clear e hm1
  go_enter Try.func77, Try.ntmps77
  go_wp2_with fail
  go_loopw [4, 11, 12] (fun m_ s_ r_ w' => ∃ (r f : Nat) (m s : Int), r_ = .int .i64 r ∧ s_ = .int .i64 s ∧ m_ = .int .i64 m ∧ r < n ∧ r < f ∧ Below w.heap.size w w' ∧
      (0 ≤ m ∧ m ≤ ls.getD r 0 ∧ 0 ≤ s ∧ s + m ≤ 1000000000000000) ∧ Hid (rk (rkV rs l) ls rs n (n - 1) m0 = s + rk (rkV rs l) ls rs f r m)) (fun _ _ r_ _ => (intOf r_).toNat)
  case atStart =>
    have := lens_bound HL.out (i := n - 1) (by rw [hl.out]; omega)
    exact ⟨n - 1, n, m0, 0, by go_num, rfl, rfl, by omega, by omega, Below.refl _ _, by omega, Lib.hid (by omega)⟩
  case round =>
    obtain ⟨r, f, m, s, rfl, rfl, rfl, hrn, hrf, hb, ⟨g1, g2, g3, g4⟩, H⟩ := hrel
    by_cases hm : m ≤ 0
    · have H' := Lib.hid (show rk (rkV rs l) ls rs n (n - 1) m0 = s by rw [H.out, rk_zero hm]; omega)
      clear H
      go_wp2_with fail
      go_ret
      exact ⟨ret_int H'.out.symm, hb⟩
    obtain ⟨b, o, x, rfl, hB, gx, c0, c1, c2⟩ := (R2.out.next hb).fac hrn
    have cg := (hb.cell (p := ⟨gb, 0, none⟩) hg).trans hc
    have lg : gb < wr.heap.size := by have := hb.size; omega
    obtain ⟨p2, o2, rfl, hB2, l0⟩ := (r22.out.next hb).i64 (k := r) hrn
    obtain ⟨p1, o1, gr, rfl, hB1, hgr, d1, d2⟩ := (T2.out.next hb).2 r hrn
    have d3 := d2 l hl4
    have hvr := HV.out r (by rw [hl.out]; exact hrn)
    have hcr := cnt_at HL.out (k := r) (by rw [hl.out]; exact hrn) l
    have hlr := lens_bound HL.out (i := r) (by rw [hl.out]; exact hrn)
    have i0 : (0 : Int) ≤ (l : Int) := by omega
    have i1 : (l : Int) < 4 := by omega
    have i2 : (0 : Int) ≤ (r : Int) := by omega
    have i3 : (r : Int) < (n : Int) := by omega
    have ev : rkV rs l r = ((cnts rs).getD r Q4.nil).at_ l := rfl
    clear d2
    by_cases hmr : m = ls.getD r 0
    · have H' := Lib.hid (show rk (rkV rs l) ls rs n (n - 1) m0 = s + ((cnts rs).getD r Q4.nil).at_ l by rw [H.out, rk_full hrf (by omega) (by omega)]; rfl)
      rw [ev] at hvr
      generalize ((cnts rs).getD r Q4.nil).at_ l = v at *
      have u1 : IntKind.i64.wrap (s + v) = s + v := IntWalk.i64_in _ (by omega)
      have hbe : (m == ls.getD r 0) = true := by simpa using hmr
      generalize ls.getD r 0 = lr at *
      clear H
      go_wp2_with fail
      go_ret
      exact ⟨ret_int H'.out.symm, hb⟩
    have hbe : (m == ls.getD r 0) = false := by simpa using hmr
    rcases HW.out r x gx with ⟨h0', ha0, ha1, hb0', hb1'⟩ | ⟨cc, hcc, hxl, hxa, hxb⟩
    case inr =>
      exfalso
      have := lens_let HL.out gx (show x.l.size ≠ 0 by rw [hxl]; show (1 : Nat) ≠ 0; omega)
      omega
    have H1 := rk_go (v := rkV rs l) hrf (show 0 < m by omega) (show m < ls.getD r 0 by omega) gx
    have lp := lens_pair HL.out gx h0'
    have lb1 := lens_bound HL.out (i := x.a.toNat) (by rw [hl.out]; omega)
    have lb2 := lens_bound HL.out (i := x.b.toNat) (by rw [hl.out]; omega)
    obtain ⟨p3, o3, hA3, hB3, l1⟩ := (r22.out.next hb).i64 (k := x.a.toNat) (by omega)
    obtain ⟨rfl, rfl⟩ : p2 = p3 ∧ o2 = o3 := by injection hA3 with hA3; injection hA3 with h1 h2; exact ⟨h1, h2⟩
    obtain ⟨p4, o4, ga, hA4, hB4, hga, d4, d5⟩ := (T2.out.next hb).2 x.a.toNat (by omega)
    obtain ⟨rfl, rfl⟩ : p1 = p4 ∧ o1 = o4 := by injection hA4 with hA4; injection hA4 with h1 h2; exact ⟨h1, h2⟩
    have d6 := d5 l hl4
    have hva := HV.out x.a.toNat (by rw [hl.out]; omega)
    have hca := cnt_at HL.out (k := x.a.toNat) (by rw [hl.out]; omega) l
    have eva : rkV rs l x.a.toNat = ((cnts rs).getD x.a.toNat Q4.nil).at_ l := rfl
    rw [eva] at hva
    clear hA3 hA4 d5 ev hvr hcr hmr
    by_cases q4 : ls.getD x.a.toNat 0 ≤ m
    · have H2 := Lib.hid (show rk (rkV rs l) ls rs n (n - 1) m0 = s + ((cnts rs).getD x.a.toNat Q4.nil).at_ l + rk (rkV rs l) ls rs (f - 1) x.b.toNat (m - ls.getD x.a.toNat 0) by
        rw [H.out, H1, rk_full (r := x.a.toNat) (by omega) (by omega) q4, eva]; omega)
      generalize ((cnts rs).getD x.a.toNat Q4.nil).at_ l = v at *
      generalize hya : ls.getD x.a.toNat 0 = ya at *
      generalize hyr : ls.getD r 0 = lr at *
      have u1 : IntKind.i64.wrap (s + v) = s + v := IntWalk.i64_in _ (by omega)
      have u2 : IntKind.i64.wrap (m - ya) = m - ya := IntWalk.i64_in _ (by clear u1; omega)
      have LP := Lib.hid lp
      clear H H1 gx lp
      go_wp2_with fail
      clear u1 u2
      have lp := LP.out
      go_roundw
      case rel => exact ⟨x.b.toNat, f - 1, m - ya, s + v, by go_num, rfl, rfl, by omega, by omega, hb.alloc hb.size _, ⟨by omega, by omega, by omega, by omega⟩, H2⟩
      case measure => simp [intOf]; omega
    · have H2 := Lib.hid (show rk (rkV rs l) ls rs n (n - 1) m0 = s + rk (rkV rs l) ls rs (f - 1) x.a.toNat m by
        rw [H.out, H1, rk_zero (r := x.b.toNat) (show m - ls.getD x.a.toNat 0 ≤ 0 by omega)]; omega)
      generalize hya : ls.getD x.a.toNat 0 = ya at *
      generalize hyr : ls.getD r 0 = lr at *
      have LP := Lib.hid lp
      clear H H1 gx lp
      go_wp2_with fail
      have lp := LP.out
      go_roundw
      case rel => exact ⟨x.a.toNat, f - 1, m, s, by go_num, rfl, rfl, by omega, by omega, hb.alloc hb.size _, ⟨by omega, by omega, by omega, by omega⟩, H2⟩
      case measure => simp [intOf]; omega
end Go.Proofs.Ytgdbpkpaacbhhaa


/-
  Heights behind the first letters: the model.
-/
namespace Go.Proofs.Ytgdbpkpaacbhhaa
open Go.RowKit

def clV (ws : List Int) (rs : List Fac) (k : Nat) : Int := ((clim ws rs).getD k Cl.nil).t
theorem clim_cnt (ws : List Int) {rs : List Fac} (hwf : WF rs) : ∀ k, k < rs.length → clV ws rs k = ws.getD 0 0 * rkV rs 0 k + ws.getD 1 0 * rkV rs 1 k + ws.getD 2 0 * rkV rs 2 k + ws.getD 3 0 * rkV rs 3 k := by
  intro k
  induction k using Nat.strongRecOn with
  | ind k ih =>
    intro hk
    have hx : rs[k]? = some (rs[k]'hk) := List.getElem?_eq_getElem _
    generalize rs[k]'hk = x at *
    rcases hwf k x hx with ⟨h0, ha0, ha1, hb0, hb1⟩ | ⟨c, hc, hl, _⟩
    · have e1 : (clim ws rs).getD k Cl.nil = climG ((clim ws rs).getD x.a.toNat Cl.nil) ((clim ws rs).getD x.b.toNat Cl.nil) x := full_pair Cl.nil (climF ws) climG hwf hx h0
      have e2 : (cnts rs).getD k Q4.nil = cntG ((cnts rs).getD x.a.toNat Q4.nil) ((cnts rs).getD x.b.toNat Q4.nil) x := full_pair Q4.nil cntF cntG hwf hx h0
      have i1 := ih x.a.toNat (by omega) (by omega)
      have i2 := ih x.b.toNat (by omega) (by omega)
      unfold clV rkV at *
      rw [e1, e2, cntG_at, cntG_at, cntG_at, cntG_at]
      show ((clim ws rs).getD x.a.toNat Cl.nil).t + ((clim ws rs).getD x.b.toNat Cl.nil).t = _
      rw [i1, i2]
      simp only [Int.mul_add]
      omega
    · have h0 : x.l.size ≠ 0 := by rw [hl]; show (1 : Nat) ≠ 0; omega
      have e1 := full_let Cl.nil (climF ws) climG hx h0
      have e2 := full_let Q4.nil cntF cntG hx h0
      unfold clV rkV
      show ((full Cl.nil (climF ws) climG rs).getD k Cl.nil).t = ws.getD 0 0 * ((full Q4.nil cntF cntG rs).getD k Q4.nil).at_ 0 + ws.getD 1 0 * ((full Q4.nil cntF cntG rs).getD k Q4.nil).at_ 1 + ws.getD 2 0 * ((full Q4.nil cntF cntG rs).getD k Q4.nil).at_ 2 + ws.getD 3 0 * ((full Q4.nil cntF cntG rs).getD k Q4.nil).at_ 3
      have hl4 : letN x.l < 4 := letN_lt (by rw [hl]; exact hc)
      rw [e1, e2, cntF_at _ (by omega), cntF_at _ (by omega), cntF_at _ (by omega), cntF_at _ (by omega)]
      show ws.getD (letN x.l) 0 = _
      rcases (show letN x.l = 0 ∨ letN x.l = 1 ∨ letN x.l = 2 ∨ letN x.l = 3 by omega) with h | h | h | h <;> rw [h] <;> simp
theorem rk_lin {ls : List Int} {rs : List Fac} (hls : gLens rs [] = some ls) (v v0 v1 v2 v3 : Nat → Int) (a0 a1 a2 a3 : Int) (h : ∀ k, k < rs.length → v k = a0 * v0 k + a1 * v1 k + a2 * v2 k + a3 * v3 k) : ∀ (f r : Nat) (m : Int), r < rs.length →
    rk v ls rs f r m = a0 * rk v0 ls rs f r m + a1 * rk v1 ls rs f r m + a2 * rk v2 ls rs f r m + a3 * rk v3 ls rs f r m
  | 0, _, _, _ => by simp [rk]
  | f + 1, r, m, hr => by
    simp only [rk]
    by_cases h0 : m ≤ 0
    · simp only [if_pos h0]; simp
    simp only [if_neg h0]
    by_cases h1 : ls.getD r 0 ≤ m
    · simp only [if_pos h1]; exact h r hr
    simp only [if_neg h1]
    have hx : rs[r]? = some (rs[r]'hr) := List.getElem?_eq_getElem _
    simp only [hx]
    generalize rs[r]'hr = x at *
    have hab : x.a.toNat < rs.length ∧ x.b.toNat < rs.length := by
      rcases wf_of hls r x hx with ⟨_, h4, h5, h6, h7⟩ | ⟨_, _, _, h5, h6⟩
      · omega
      · rw [h5, h6]; show 0 < _ ∧ 0 < _; omega
    rw [rk_lin hls v v0 v1 v2 v3 a0 a1 a2 a3 h f x.a.toNat m hab.1, rk_lin hls v v0 v1 v2 v3 a0 a1 a2 a3 h f x.b.toNat _ hab.2]
    simp only [Int.mul_add]
    omega
theorem rkT_clim (ws : List Int) {ls : List Int} {rs : List Fac} (hls : gLens rs [] = some ls) (m : Int) :
    rkT (clV ws rs) ls rs m = ws.getD 0 0 * rkT (rkV rs 0) ls rs m + ws.getD 1 0 * rkT (rkV rs 1) ls rs m + ws.getD 2 0 * rkT (rkV rs 2) ls rs m + ws.getD 3 0 * rkT (rkV rs 3) ls rs m := by
  unfold rkT
  by_cases h0 : rs.length = 0
  · simp only [if_pos h0]; simp
  simp only [if_neg h0]
  exact rk_lin hls _ _ _ _ _ _ _ _ _ (clim_cnt ws (wf_of hls)) _ _ _ (by omega)
theorem clV_bound {ws : List Int} {rs : List Fac} {ls : List Int} (hls : gLens rs [] = some ls) (hws : WsOk ws) : ∀ k, k < rs.length → -(9 * ls.getD k 0) ≤ clV ws rs k ∧ clV ws rs k ≤ 9 * ls.getD k 0 := fun k hk => by
  obtain ⟨h1, h2, _⟩ := clim_bound hls hws hk
  unfold clV
  exact ⟨h1, h2⟩
def claV (rs : List Fac) (ws : List Int) (m : Int) : Value :=
  if wsC rs ws = 0 then (if inB m 0 (lastI ((gLens rs []).getD [])) = false then tup2 0 2 else tup2 (rkT (clV ws rs) ((gLens rs []).getD []) rs m) 0) else tup2 0 (wsC rs ws)
theorem claV_form (rs : List Fac) (ws : List Int) (m : Int) : ∃ b k, claV rs ws m = .tuple #[.int .i64 b, .int .i64 k] := by
  unfold claV
  split
  · split
    · exact ⟨_, _, rfl⟩
    · exact ⟨_, _, rfl⟩
  · exact ⟨_, _, rfl⟩
theorem claV1 {rs : List Fac} {ws : List Int} {m : Int} (h : wsC rs ws ≠ 0) : claV rs ws m = tup2 0 (wsC rs ws) := by unfold claV; rw [if_neg h]
theorem claV2 {rs : List Fac} {ws ls : List Int} {m : Int} (hls : gLens rs [] = some ls) (h : wsC rs ws = 0) (h3 : inB m 0 (lastI ls) = false) : claV rs ws m = tup2 0 2 := by
  unfold claV; rw [if_pos h, hls, if_pos (show inB m 0 (lastI ((some ls).getD [])) = false from h3)]
theorem claV3 {rs : List Fac} {ws ls : List Int} {m : Int} (hls : gLens rs [] = some ls) (h : wsC rs ws = 0) (h3 : inB m 0 (lastI ls) = true) : claV rs ws m = tup2 (rkT (clV ws rs) ls rs m) 0 := by
  have : ¬ inB m 0 (lastI (Option.getD (some ls) [])) = false := by show ¬ inB m 0 (lastI ls) = false; rw [h3]; decide
  unfold claV; rw [if_pos h, hls, if_neg this]; rfl
end Go.Proofs.Ytgdbpkpaacbhhaa


/-
  FirstBelow in the program and in the reference.
-/
namespace Go.Proofs.Ytgdbpkpaacbhhaa
open Go.RowKit

def lensOf (rs : List Fac) : List Int := (gLens rs []).getD []
def belGo (cs : List Cl) (ls : List Int) (rs : List Fac) (z : Int) : Nat → Nat → Int → Int → Int
  | 0, _, _, n => n
  | f + 1, r, h, n =>
    match rs[r]? with
    | none => n
    | some x => if x.l.size = 0 then (if h + (cs.getD x.a.toNat Cl.nil).l < z then belGo cs ls rs z f x.a.toNat h n else belGo cs ls rs z f x.b.toNat (h + (cs.getD x.a.toNat Cl.nil).t) (n + ls.getD x.a.toNat 0)) else n
theorem belGo_step {cs : List Cl} {ls : List Int} {rs : List Fac} {z : Int} {f r : Nat} {h n : Int} {x : Fac} (hf : r < f) (hx : rs[r]? = some x) (h0 : x.l.size = 0) :
    belGo cs ls rs z f r h n = if h + (cs.getD x.a.toNat Cl.nil).l < z then belGo cs ls rs z (f - 1) x.a.toNat h n else belGo cs ls rs z (f - 1) x.b.toNat (h + (cs.getD x.a.toNat Cl.nil).t) (n + ls.getD x.a.toNat 0) := by
  obtain ⟨g, rfl⟩ : ∃ g, f = g + 1 := ⟨f - 1, by omega⟩
  rw [belGo, hx]
  simp only [if_pos h0, Nat.add_sub_cancel]
theorem belGo_stop {cs : List Cl} {ls : List Int} {rs : List Fac} {z : Int} {f r : Nat} {h n : Int} {x : Fac} (hf : r < f) (hx : rs[r]? = some x) (h0 : x.l.size ≠ 0) : belGo cs ls rs z f r h n = n := by
  obtain ⟨g, rfl⟩ : ∃ g, f = g + 1 := ⟨f - 1, by omega⟩
  rw [belGo, hx]
  simp only [if_neg h0]
def belV (rs : List Fac) (ws : List Int) (z : Int) : Value :=
  if wsC rs ws = 0 then (if 0 < z then tup2 0 0 else if z ≤ (climT ws rs).l then tup2 0 6 else tup2 (belGo (clim ws rs) (lensOf rs) rs z rs.length (rs.length - 1) 0 0 + 1) 0) else tup2 0 (wsC rs ws)
theorem belV_form (rs : List Fac) (ws : List Int) (z : Int) : ∃ b k, belV rs ws z = .tuple #[.int .i64 b, .int .i64 k] := by
  unfold belV
  split
  · split
    · exact ⟨_, _, rfl⟩
    · split
      · exact ⟨_, _, rfl⟩
      · exact ⟨_, _, rfl⟩
  · exact ⟨_, _, rfl⟩
theorem Rd.cl {w : World} {B n : Nat} {A : Option Addr} {xs : List Cl} {k : Nat} (h : Rd w B A n 3 encCl xs) (hk : k < n) :
    ∃ b o x, A = some ⟨b, o, none⟩ ∧ b < B ∧ xs[k]? = some x ∧ w.cell? ⟨b, o + k * 3, none⟩ = some (.int .i64 x.t) ∧ w.cell? ⟨b, o + k * 3 + 1, none⟩ = some (.int .i64 x.l) ∧ w.cell? ⟨b, o + k * 3 + 2, none⟩ = some (.int .i64 x.h) := by
  obtain ⟨b, o, hA, hb, x, hx, hc⟩ := h.at_ hk
  exact ⟨b, o, x, hA, hb, hx, hc 0 _ rfl, hc 1 _ rfl, hc 2 _ rfl⟩
theorem field_low (a b c : Value) (w : World) : Sem.run Try.prog (Instr.field 51 (.agg #[a, b, c]) 1) w = .ok b w := by
  unfold Instr.field
  kernel_rfl
set_option maxHeartbeats 2000000 in
set_option maxRecDepth 100000 in
theorem implBelow_any (A : Option Addr) (n c : Nat) (rs : List Fac) (D : Option Addr) (m d : Nat) (zs : List Int) (z : Int) (w : World) (hn : n ≤ 1048576) (hr : Rd w w.heap.size A n 3 Fac.cells rs)
    (hok : ∀ f ∈ rs, f.l.size ≤ maxLen) (hm : m ≤ 1048576) (hd : Rd w w.heap.size D m 1 intE zs) (hz : -9223372036854775808 ≤ z ∧ z ≤ 9223372036854775807) :
    Calls Try.prog 29 #[.agg #[.slice A n c], .slice D m d, .int .i64 z] w (Ret (belV rs zs z) w) := by
  have hb0 : Below w.heap.size w (w.alloc (.cells #[.slice A n c] 26)) := by (repeat first | exact Below.refl _ _ | assumption | refine Below.drew ?_ | refine Below.alloc ?_ (by first | exact Nat.le_refl _ | (simp; done) | omega | (simp; omega)) _ | refine Below.setCell ?_ (by first | exact Nat.le_refl _ | (simp; done) | omega | (simp; omega)) _)
  have hB0 := Lib.hid (Blk.new w 26 #[.slice A n c])
  have hl := Lib.hid hr.len
  have HR := Lib.hid hr; clear hr
  have HD := Lib.hid hd; clear hd
  have HO := Lib.hid hok; clear hok
  have HC := Lib.hid (wsC_cases rs zs)

  obtain ⟨hz0, hz1⟩ := hz
  go_enter Try.func29, Try.ntmps29
  go_wp2_with fail
  refine (climbCode_any A n c rs D m d zs _ hn (HR.out.next hb0) HO.out hm (HD.out.next hb0)).mono ?_
  rintro e1 w1 ⟨rfl, hb1⟩
  have b1 := hb0.trans (hb1.mono hb0.size)
  have B1 := Lib.hid (hB0.out.next hb1)
  have cg1 := B1.out.cell 0
  have lg1 := B1.out.lt
  rcases HC.out with ⟨h1, h2⟩ | ⟨h1, h2, h3, h4⟩
  · have e0 : (wsC rs zs != 0) = true := by simpa using h1
    have e := Lib.hid (show belV rs zs z = tup2 0 (wsC rs zs) by unfold belV; rw [if_neg h1])
    generalize wsC rs zs = k at *
    clear h1 h2 HC
    go_wp2_with fail
    go_ret2
    exact ⟨by rw [e.out]; rfl, b1⟩
  have H1 := Lib.hid h1
  obtain ⟨ls, hls⟩ := Option.isSome_iff_exists.1 h2
  have Hk := Lib.hid hls
  have HL := Lib.hid (gOk_lens hls).1
  have hll := Lib.hid (gOk_lens hls).2.2
  have hn4 : n ≤ 400 := by have := (gOk_lens hls).2.1; have := hl.out; omega
  have e9 := Lib.hid (show lensOf rs = ls by unfold lensOf; rw [HL.out]; rfl)
  have HWs := Lib.hid h3
  rw [h1]
  obtain rfl : m = 4 := by have := h3.1; have := HD.out.len; omega
  have HT := Lib.hid (top_climT zs rs)
  have HN := Lib.hid (foldAll_len Cl.nil (climF zs) climG Cl.nil rs)
  have HW := Lib.hid (wf_of HL.out)
  clear h1 h2 h3 h4 HC hls
  go_wp2_with fail
  refine (lengths_any A n c rs w1 (by omega) (HR.out.next b1) HO.out).mono ?_
  rintro e w2 ⟨hb2, ⟨ls', A2, c2, hg2, rfl, hown2⟩ | ⟨hg2, _⟩⟩
  case inr => exact absurd (hg2.symm.trans Hk.out) (by simp)
  obtain rfl : ls' = ls := Option.some.inj (hg2.symm.trans Hk.out)
  have r2 := Lib.hid (Rd.of_own (enc := intE) (fun _ _ => rfl) rfl hown2)
  have b2 := b1.trans (hb2.mono b1.size)
  have B2 := Lib.hid (B1.out.next hb2)
  clear cg1 lg1 hown2 hg2
  have cg2 := B2.out.cell 0
  have lg2 := B2.out.lt
  rw [hll.out, hl.out] at r2 ⊢
  go_wp2_with fail
  refine (climbs_any A n c rs D d zs ls' w2 hn (HR.out.next b2) HL.out HWs.out (HD.out.next b2)).mono ?_
  rintro e1 w3 ⟨A3, c3, rfl, own3, hb3⟩
  have b3 := b2.trans (hb3.mono b2.size)
  have B3 := Lib.hid (B2.out.next hb3)
  have r3 := Lib.hid (r2.out.next hb3)
  have O3 := Lib.hid own3; clear own3
  clear cg2 lg2
  by_cases q1 : 0 < z
  · have e := Lib.hid (show belV rs zs z = tup2 0 0 by unfold belV; rw [if_pos H1.out, if_pos (by omega)])
    go_wp2_with fail
    go_ret2
    exact ⟨by rw [e.out]; rfl, b3⟩
  go_wp2_with fail
  refine (topC_any A3 _ c3 _ w3 (by have := HN.out; have := hl.out; omega) (by have := HN.out; omega) (Rd.of_own (fun y _ => lenCl y) rfl O3.out)).mono ?_
  rintro e1 w4 ⟨rfl, hb4⟩
  rw [HT.out]
  have b4 := b3.trans (hb4.mono b3.size)
  have B4 := Lib.hid (B3.out.next hb4)
  have r4 := Lib.hid (r3.out.next hb4)
  have O4 := Lib.hid (own_next O3.out hb4)
  by_cases q2 : z ≤ (climT zs rs).l
  · have e := Lib.hid (show belV rs zs z = tup2 0 6 by unfold belV; rw [if_pos H1.out, if_neg (by omega), if_pos (by omega)])
    generalize climT zs rs = y at *
    unfold Cl.v
    have hfd := field_low
    go_wp2_with fail
    go_ret2
    exact ⟨by rw [e.out]; rfl, b4⟩
  have hpos : 0 < rs.length := by
    rcases Nat.eq_zero_or_pos rs.length with h | h
    · exfalso; apply q2; rw [show climT zs rs = Cl.nil by unfold climT; rw [if_pos h]]; show z ≤ 0; omega
    · exact h
  have e := Lib.hid (show belV rs zs z = tup2 (belGo (clim zs rs) ls' rs z rs.length (rs.length - 1) 0 0 + 1) 0 by unfold belV; rw [if_pos H1.out, if_neg (by omega), if_neg (by omega), e9.out])
  have hfa := Lib.hid (foldAll_pos Cl.nil (climF zs) climG Cl.nil hpos)
  have hfl := Lib.hid (full_len Cl.nil (climF zs) climG (rs := rs))
  have r5 := Lib.hid (show Rd w4 w4.heap.size A3 n 3 encCl (clim zs rs) by
    have := Rd.of_own (fun y _ => lenCl y) rfl O4.out
    rw [hfa.out, hfl.out, hl.out] at this
    exact this)
  rw [hfa.out, hfl.out, hl.out]
  have HRr := Lib.hid (HR.out.next b4)
  have hn0 : 0 < n := by rw [← hl.out]; exact hpos
  rw [hl.out] at e
  clear hfa HT HN O3 O4 hpos
  generalize climT zs rs = y at *
  have q3 : ¬ z ≤ y.l := by omega
  unfold Cl.v
  have hfd := field_low
  have cg4 := B4.out.cell 0
  have lg4 := B4.out.lt
  go_wp2_with fail
  go_loopw [12, 13, 14] (fun r_ n_ h_ w' => ∃ (r f : Nat) (h t : Int), r_ = .int .i64 r ∧ n_ = .int .i64 t ∧ h_ = .int .i64 h ∧ r < n ∧ r < f ∧ Below w4.heap.size w4 w' ∧
      (0 ≤ t ∧ t + ls'.getD r 0 ≤ 1000000000000000 ∧ - (9 * t) ≤ h ∧ h ≤ 9 * t) ∧ Hid (belGo (clim zs rs) ls' rs z n (n - 1) 0 0 = belGo (clim zs rs) ls' rs z f r h t)) (fun r_ _ _ _ => (intOf r_).toNat)
  case atStart =>
    have := lens_bound HL.out (i := n - 1) (by rw [hl.out]; omega)
    exact ⟨n - 1, n, 0, 0, by go_num, rfl, rfl, by omega, by omega, Below.refl _ _, by omega, Lib.hid rfl⟩
  case round =>
    obtain ⟨r, f, h, t, rfl, rfl, rfl, hrn, hrf, hb, ⟨g1, g2, g3, g4⟩, H⟩ := hrel
    obtain ⟨b, o, x, rfl, hB, gx, c0, c1, c2⟩ := (HRr.out.next hb).fac hrn
    have cg := (B4.out.next hb).cell 0
    have lg := (B4.out.next hb).lt
    rcases HW.out r x gx with ⟨h0, ha0, ha1, hb0', hb1'⟩ | ⟨cc, hcc, hxl, hxa, hxb⟩
    · obtain ⟨p1, o1, y1, rfl, hB1, gy, d0, d1, d2⟩ := (r5.out.next hb).cl (k := x.a.toNat) (by omega)
      obtain ⟨p2, o2, y2, rfl, hB2, gl, l0⟩ := (show Rd wr wr.heap.size A2 n 1 (fun s => [.int .i64 s]) ls' from r4.out.next hb).int (k := x.a.toNat) (by omega)
      have ec := (show (clim zs rs).getD x.a.toNat Cl.nil = y1 by rw [List.getD_eq_getElem?_getD, gy]; rfl)
      have el := (show ls'.getD x.a.toNat 0 = y2 by rw [List.getD_eq_getElem?_getD, gl]; rfl)
      have H' := belGo_step (cs := clim zs rs) (ls := ls') (z := z) (h := h) (n := t) hrf gx h0
      rw [← H.out, ec, el] at H'
      have H2 := Lib.hid H'
      have cb := clim_bound HL.out HWs.out (k := x.a.toNat) (by rw [hl.out]; omega)
      have lp := lens_pair HL.out gx h0
      have lb1 := lens_bound HL.out (i := x.a.toNat) (by rw [hl.out]; omega)
      have lb2 := lens_bound HL.out (i := x.b.toNat) (by rw [hl.out]; omega)
      rw [ec, el] at cb
      rw [el] at lp lb1
      obtain ⟨k1, k2, k3, k4, k5, k6⟩ := cb
      clear H' gx gy gl H
      go_wp2_with fail
      refine (isPair_any x true _ (by simpa [isP] using h0)).mono ?_
      rintro e1 w5 ⟨rfl, hb5⟩
      have c0' := (hb5.cell (p := ⟨b, o + r * 3, none⟩) hB).trans c0
      have c1' := (hb5.cell (p := ⟨b, o + r * 3 + 1, none⟩) hB).trans c1
      have c2' := (hb5.cell (p := ⟨b, o + r * 3 + 2, none⟩) hB).trans c2
      have d0' := (hb5.cell (p := ⟨p1, o1 + x.a.toNat * 3, none⟩) hB1).trans d0
      have d1' := (hb5.cell (p := ⟨p1, o1 + x.a.toNat * 3 + 1, none⟩) hB1).trans d1
      have l0' := (hb5.cell (p := ⟨p2, o2 + x.a.toNat, none⟩) hB2).trans l0
      have cg' := (hb5.cell (p := ⟨w.heap.size, 0, none⟩) lg).trans cg
      have sz5 := hb5.size
      have s51 : p1 < w5.heap.size := by omega
      have s52 : p2 < w5.heap.size := by omega
      have b5 := hb.trans (hb5.mono hb.size)
      clear c0 c1 c2 d0 d1 d2 l0 cg h0
      by_cases q4 : h + y1.l < z
      · rw [if_pos (by omega)] at H2
        go_wp2_with fail
        go_roundw
        case rel => exact ⟨x.a.toNat, f - 1, h, t, by go_num, rfl, rfl, by omega, by omega, b5.alloc b5.size _, ⟨g1, by omega, g3, g4⟩, H2⟩
        case measure => simp [intOf]; omega
      · rw [if_neg (by omega)] at H2
        go_wp2_with fail
        refine named fun w6 H6 => ?_
        have B6 : Blk w6 w5.heap.size 82 #[.string x.l, .int .i64 x.a, .int .i64 x.b] := by rw [H6.out]; exact Blk.new _ _ _
        have hb6 : Below w5.heap.size w5 w6 := by rw [H6.out]; (repeat first | exact Below.refl _ _ | assumption | refine Below.drew ?_ | refine Below.alloc ?_ (by first | exact Nat.le_refl _ | (simp; done) | omega | (simp; omega)) _ | refine Below.setCell ?_ (by first | exact Nat.le_refl _ | (simp; done) | omega | (simp; omega)) _)
        obtain ⟨t0, t1, t2⟩ := B6.three
        have hz6 := B6.lt
        have d0'' := (hb6.cell (p := ⟨p1, o1 + x.a.toNat * 3, none⟩) (by show p1 < _; omega)).trans d0'
        have l0'' := (hb6.cell (p := ⟨p2, o2 + x.a.toNat, none⟩) (by show p2 < _; omega)).trans l0'
        have sp1 : p1 < w6.heap.size := by omega
        have sp2 : p2 < w6.heap.size := by omega
        have hup := upc w6.heap.size w6
        have i1 : x.a < (n : Int) := by omega
        have u1 : IntKind.i64.wrap (t + y2) = t + y2 := IntWalk.i64_in _ (by omega)
        have u2 : IntKind.i64.wrap (h + y1.t) = h + y1.t := IntWalk.i64_in _ (by clear u1; omega)
        refine wp_region_up w6.heap.size (by kernel_rfl) (by kernel_rfl) ?_
        repeat (go_big_quiet_step (fail))
        refine wpQuiet_nil ?_
        intro w7 hup_w7
        have hb7 := up_of hup_w7
        have b7 := b5.trans ((hb6.trans (hb7.mono hb6.size)).mono b5.size)
        clear u1 u2
        go_wp2_with fail
        go_roundw
        case rel => exact ⟨x.b.toNat, f - 1, h + y1.t, t + y2, by go_num, rfl, rfl, by omega, by omega, b7, ⟨by omega, by omega, by omega, by omega⟩, H2⟩
        case measure => simp [intOf]; omega
    · have h0 : x.l.size ≠ 0 := by rw [hxl]; show (1 : Nat) ≠ 0; omega
      have H' := Lib.hid (H.out.trans (belGo_stop (cs := clim zs rs) (ls := ls') (z := z) (h := h) (n := t) hrf gx h0))
      have lb1 := lens_bound HL.out (i := r) (by rw [hl.out]; omega)
      clear gx H hxl hxa hxb
      go_wp2_with fail
      refine (isPair_any x false _ (by simpa [isP] using h0)).mono ?_
      rintro e1 w5 ⟨rfl, hb5⟩
      have b5 := hb.trans (hb5.mono hb.size)
      go_wp2_with fail
      go_ret2
      exact ⟨by rw [e.out, H'.out]; rfl, b4.trans (b5.mono b4.size)⟩
end Go.Proofs.Ytgdbpkpaacbhhaa


/-
  A part of a word, as the reference cuts it: the plain part.
-/
namespace Go.Proofs.Ytgdbpkpaacbhhaa

/-- the rules of which a part of the word of a rule is made -/
def cov (ls : List Int) (rs : List Fac) : Nat → Nat → Int → Int → List Nat
  | 0, _, _, _ => []
  | f + 1, r, i, j =>
    if j ≤ i then [] else if i = 0 ∧ j = ls.getD r 0 then [r] else
    match rs[r]? with
    | none => []
    | some x => cov ls rs f x.a.toNat i (min j (ls.getD x.a.toNat 0)) ++ cov ls rs f x.b.toNat (max (i - ls.getD x.a.toNat 0) 0) (j - ls.getD x.a.toNat 0)
section
variable {ls : List Int} {rs : List Fac}
theorem cov_no {f r : Nat} {i j : Int} (h : j ≤ i) : cov ls rs f r i j = [] := by
  cases f with
  | zero => rfl
  | succ f => rw [cov, if_pos h]
theorem cov_one {f r : Nat} {i j : Int} (hf : r < f) (h : ¬ j ≤ i) (h2 : i = 0 ∧ j = ls.getD r 0) : cov ls rs f r i j = [r] := by
  obtain ⟨g, rfl⟩ : ∃ g, f = g + 1 := ⟨f - 1, by omega⟩
  rw [cov, if_neg h, if_pos h2]
theorem cov_go {f r : Nat} {i j : Int} {x : Fac} (hf : r < f) (h : ¬ j ≤ i) (h2 : ¬ (i = 0 ∧ j = ls.getD r 0)) (hx : rs[r]? = some x) :
    cov ls rs f r i j = cov ls rs (f - 1) x.a.toNat i (min j (ls.getD x.a.toNat 0)) ++ cov ls rs (f - 1) x.b.toNat (max (i - ls.getD x.a.toNat 0) 0) (j - ls.getD x.a.toNat 0) := by
  obtain ⟨g, rfl⟩ : ∃ g, f = g + 1 := ⟨f - 1, by omega⟩
  rw [cov, if_neg h, if_neg h2, hx]
  rfl
theorem max_eq_l {a b : Int} (h : b ≤ a) : max a b = a := by omega
theorem cov_pcs (hls : gLens rs [] = some ls) {i j : Int} (hij : i < j) : ∀ (r f : Nat) (a : Int), r < f → r < rs.length → pcs ls rs i j f r a = cov ls rs f r (max (i - a) 0) (min (j - a) (ls.getD r 0)) := by
  intro r
  induction r using Nat.strongRecOn with
  | ind r ih =>
    intro f a hf hr
    have lb := lens_bound hls hr
    by_cases h1 : a + ls.getD r 0 ≤ i
    · rw [pcs_out1 h1, cov_no (by omega)]
    by_cases h2 : j ≤ a
    · rw [pcs_out2 h2, cov_no (by omega)]
    by_cases h3 : i ≤ a ∧ a + ls.getD r 0 ≤ j
    · rw [pcs_in hf h1 h2 h3.1 h3.2, cov_one hf (by omega) (by omega)]
    have gx : rs[r]? = some (rs[r]'hr) := List.getElem?_eq_getElem _
    rcases wf_of hls r _ gx with ⟨h0, ha0, ha1, hb0, hb1⟩ | ⟨cc, _, hxl, _⟩
    · have lp := lens_pair hls gx h0
      have la := lens_bound hls (i := (rs[r]'hr).a.toNat) (by omega)
      have lb2 := lens_bound hls (i := (rs[r]'hr).b.toNat) (by omega)
      rw [pcs_go hf h1 h2 h3 gx, cov_go hf (by omega) (by omega) gx, ih (rs[r]'hr).a.toNat (by omega) (f - 1) a (by omega) (by omega), ih (rs[r]'hr).b.toNat (by omega) (f - 1) _ (by omega) (by omega)]
      congr 1
      · congr 1; omega
      · congr 1 <;> omega
    · exfalso
      have h0 : (rs[r]'hr).l.size ≠ 0 := by rw [hxl]; show (1 : Nat) ≠ 0; omega
      have := lens_let hls gx h0
      omega
/-- the sum of the lengths of some rules -/
def sumC (ls : List Int) : List Nat → Int
  | [] => 0
  | k :: t => ls.getD k 0 + sumC ls t
theorem sumC_app (xs ys : List Nat) : sumC ls (xs ++ ys) = sumC ls xs + sumC ls ys := by
  induction xs with
  | nil => simp [sumC]
  | cons x r ih => simp [sumC, ih]; omega
/-- what a cover is: earlier rules, not many, as long together as the part -/
theorem cov_ok (hls : gLens rs [] = some ls) : ∀ (r f : Nat) (i j : Int), r < f → r < rs.length → 0 ≤ i → j ≤ ls.getD r 0 →
    (∀ k ∈ cov ls rs f r i j, k ≤ r) ∧ (cov ls rs f r i j).length ≤ 2 * (r + 1) ∧ (i = 0 → (cov ls rs f r i j).length ≤ r + 1) ∧ (j = ls.getD r 0 → (cov ls rs f r i j).length ≤ r + 1) ∧ (i ≤ j → sumC ls (cov ls rs f r i j) = j - i) := by
  intro r
  induction r using Nat.strongRecOn with
  | ind r ih =>
    intro f i j hf hr hi hj
    by_cases h1 : j ≤ i
    · rw [cov_no h1]
      refine ⟨by simp, by simp, by simp, by simp, fun h => ?_⟩
      show (0 : Int) = _; omega
    by_cases h2 : i = 0 ∧ j = ls.getD r 0
    · rw [cov_one hf h1 h2]
      refine ⟨by simp, by simp; omega, by simp, by simp, fun h => ?_⟩
      show ls.getD r 0 + 0 = _; omega
    have gx : rs[r]? = some (rs[r]'hr) := List.getElem?_eq_getElem _
    rcases wf_of hls r _ gx with ⟨h0, ha0, ha1, hb0, hb1⟩ | ⟨cc, _, hxl, _⟩
    · have lp := lens_pair hls gx h0
      have la := lens_bound hls (i := (rs[r]'hr).a.toNat) (by omega)
      have lb2 := lens_bound hls (i := (rs[r]'hr).b.toNat) (by omega)
      rw [cov_go hf h1 h2 gx]
      have A := ih (rs[r]'hr).a.toNat (by omega) (f - 1) i (min j (ls.getD (rs[r]'hr).a.toNat 0)) (by omega) (by omega) hi (by omega)
      have B := ih (rs[r]'hr).b.toNat (by omega) (f - 1) (max (i - ls.getD (rs[r]'hr).a.toNat 0) 0) (j - ls.getD (rs[r]'hr).a.toNat 0) (by omega) (by omega) (by omega) (by omega)
      have A0 : min j (ls.getD (rs[r]'hr).a.toNat 0) ≤ i → (cov ls rs (f - 1) (rs[r]'hr).a.toNat i (min j (ls.getD (rs[r]'hr).a.toNat 0))).length = 0 ∧ sumC ls (cov ls rs (f - 1) (rs[r]'hr).a.toNat i (min j (ls.getD (rs[r]'hr).a.toNat 0))) = 0 := fun h => by rw [cov_no h]; exact ⟨rfl, rfl⟩
      have A1 : i = 0 → ls.getD (rs[r]'hr).a.toNat 0 ≤ j → (cov ls rs (f - 1) (rs[r]'hr).a.toNat i (min j (ls.getD (rs[r]'hr).a.toNat 0))).length = 1 := fun h h' => by rw [cov_one (by omega) (by omega) (by omega)]; rfl
      have B0 : j - ls.getD (rs[r]'hr).a.toNat 0 ≤ max (i - ls.getD (rs[r]'hr).a.toNat 0) 0 → (cov ls rs (f - 1) (rs[r]'hr).b.toNat (max (i - ls.getD (rs[r]'hr).a.toNat 0) 0) (j - ls.getD (rs[r]'hr).a.toNat 0)).length = 0 ∧ sumC ls (cov ls rs (f - 1) (rs[r]'hr).b.toNat (max (i - ls.getD (rs[r]'hr).a.toNat 0) 0) (j - ls.getD (rs[r]'hr).a.toNat 0)) = 0 := fun h => by rw [cov_no h]; exact ⟨rfl, rfl⟩
      have B1 : j = ls.getD r 0 → i ≤ ls.getD (rs[r]'hr).a.toNat 0 → (cov ls rs (f - 1) (rs[r]'hr).b.toNat (max (i - ls.getD (rs[r]'hr).a.toNat 0) 0) (j - ls.getD (rs[r]'hr).a.toNat 0)).length = 1 := fun h h' => by rw [cov_one (by omega) (by omega) (by omega)]; rfl
      rw [sumC_app]
      generalize hX : cov ls rs (f - 1) (rs[r]'hr).a.toNat i (min j (ls.getD (rs[r]'hr).a.toNat 0)) = X at *
      generalize hY : cov ls rs (f - 1) (rs[r]'hr).b.toNat (max (i - ls.getD (rs[r]'hr).a.toNat 0) 0) (j - ls.getD (rs[r]'hr).a.toNat 0) = Y at *
      obtain ⟨a1, a2, a3, a4, a5⟩ := A
      obtain ⟨b1, b2, b3, b4, b5⟩ := B
      have hxl : X.length ≤ 2 * r := by omega
      have hyl : Y.length ≤ 2 * r := by omega
      refine ⟨fun k hk => ?_, ?_, fun h => ?_, fun h => ?_, fun h => ?_⟩
      · rcases List.mem_append.1 hk with hk | hk
        · have := a1 k hk; omega
        · have := b1 k hk; omega
      · rw [List.length_append]
        by_cases q1 : j ≤ ls.getD (rs[r]'hr).a.toNat 0
        · have := B0 (by omega); omega
        by_cases q2 : ls.getD (rs[r]'hr).a.toNat 0 ≤ i
        · have := A0 (by omega); omega
        have := a4 (by omega)
        have := b3 (by omega)
        omega
      · rw [List.length_append]
        by_cases q1 : j ≤ ls.getD (rs[r]'hr).a.toNat 0
        · have := B0 (by omega); have := a3 h; omega
        · have := A1 h (by omega); have := b3 (by omega); omega
      · rw [List.length_append]
        by_cases q2 : ls.getD (rs[r]'hr).a.toNat 0 < i
        · have := A0 (by omega); have := b4 (by omega); omega
        · have := B1 h (by omega); have := a4 (by omega); omega
      · by_cases q1 : j ≤ ls.getD (rs[r]'hr).a.toNat 0
        · have := B0 (by omega); have := a5 (by omega); omega
        by_cases q2 : ls.getD (rs[r]'hr).a.toNat 0 ≤ i
        · have := A0 (by omega); have := b5 (by omega); omega
        have := a5 (by omega); have := b5 (by omega); omega
    · exfalso
      have h0 : (rs[r]'hr).l.size ≠ 0 := by rw [hxl]; show (1 : Nat) ≠ 0; omega
      have := lens_let hls gx h0
      omega
/-- the cover of a part of the word -/
def covT (ls : List Int) (rs : List Fac) (i j : Int) : List Nat := cov ls rs rs.length (rs.length - 1) i j
theorem covT_pcs (hls : gLens rs [] = some ls) (hll : ls.length = rs.length) {i j : Int} (hi : 0 ≤ i) (hij : i < j) (hj : j ≤ lastI ls) : pcsT ls rs i j = covT ls rs i j := by
  have hp : 0 < rs.length := by
    rcases Nat.eq_zero_or_pos rs.length with h | h
    · have : lastI ls = 0 := by unfold lastI; rw [List.eq_nil_of_length_eq_zero (hll.trans h)]; rfl
      omega
    · exact h
  have e : lastI ls = ls.getD (rs.length - 1) 0 := by unfold lastI; rw [hll]
  unfold pcsT covT
  rw [if_pos (by omega), cov_pcs hls hij _ _ _ (by omega) (by omega)]
  congr 1 <;> omega
theorem covT_ok (hls : gLens rs [] = some ls) (hll : ls.length = rs.length) {i j : Int} (hi : 0 ≤ i) (hij : i < j) (hj : j ≤ lastI ls) :
    0 < rs.length ∧ (∀ k ∈ covT ls rs i j, k < rs.length) ∧ (covT ls rs i j).length ≤ 2 * rs.length ∧ sumC ls (covT ls rs i j) = j - i ∧ 0 < (covT ls rs i j).length := by
  have hp : 0 < rs.length := by
    rcases Nat.eq_zero_or_pos rs.length with h | h
    · have : lastI ls = 0 := by unfold lastI; rw [List.eq_nil_of_length_eq_zero (hll.trans h)]; rfl
      omega
    · exact h
  have e : lastI ls = ls.getD (rs.length - 1) 0 := by unfold lastI; rw [hll]
  obtain ⟨h1, h2, _, _, h5⟩ := cov_ok hls (rs.length - 1) rs.length i j (by omega) (by omega) hi (by omega)
  have h5' := h5 (by omega)
  refine ⟨hp, fun k hk => by have := h1 k hk; omega, by unfold covT; omega, h5', ?_⟩
  rcases hc : covT ls rs i j with _ | ⟨x, t⟩
  · unfold covT at hc; rw [hc] at h5'; have : sumC ls [] = 0 := rfl; omega
  · simp
end
/-- pairs that put a cover together, behind n rules -/
def chain (n last : Nat) : List Nat → List Fac
  | [] => []
  | k :: t => ⟨⟨#[]⟩, (last : Int), (k : Int)⟩ :: chain (n + 1) n t
theorem chain_len : ∀ (t : List Nat) (n last : Nat), (chain n last t).length = t.length
  | [], _, _ => rfl
  | _ :: t, n, _ => by show (chain (n + 1) n t).length + 1 = _; rw [chain_len t]; rfl
/-- the rules of a part -/
def cutL (rs : List Fac) : List Nat → List Fac
  | [] => []
  | [c] => rs.take (c + 1)
  | c :: k :: t => rs ++ chain rs.length c (k :: t)
theorem gLens_app : ∀ (xs ys : List Fac) (out : List Int), gLens (xs ++ ys) out = (gLens xs out).bind (gLens ys)
  | [], _, _ => rfl
  | x :: xs, ys, out => by
    show (gStep out x).bind (fun n => gLens (xs ++ ys) (out ++ [n])) = ((gStep out x).bind fun n => gLens xs (out ++ [n])).bind (gLens ys)
    rcases gStep out x with _ | n
    · rfl
    · exact gLens_app xs ys _
theorem gLens_take {rs : List Fac} {ls : List Int} (h : gLens rs [] = some ls) (k : Nat) : ∃ ls', gLens (rs.take k) [] = some ls' := by
  have e := gLens_app (rs.take k) (rs.drop k) []
  rw [List.take_append_drop, h] at e
  rcases hg : gLens (rs.take k) [] with _ | l
  · rw [hg] at e; cases e
  · exact ⟨l, rfl⟩
theorem gLens_chain {M : Int} (hM : M ≤ 1000000000000000) : ∀ (t : List Nat) (n last : Nat) (out : List Int), out.length = n → last < n → (∀ k ∈ t, k < n) → (∀ x ∈ out, 1 ≤ x) → out.getD last 0 + sumC out t ≤ M → ∃ ls', gLens (chain n last t) out = some ls'
  | [], _, _, out, _, _, _, _, _ => ⟨out, rfl⟩
  | k :: t, n, last, out, hn, hl, hk, ho, hs => by
    have hkn := hk k (by simp)
    have p1 : ∀ i, i < n → 1 ≤ out.getD i 0 := fun i hi => ho _ (by rw [List.getD_eq_getElem?_getD, List.getElem?_eq_getElem (by omega)]; simp)
    have pt : ∀ (l : List Nat), (∀ k ∈ l, k < n) → 0 ≤ sumC out l := fun l => by
      induction l with
      | nil => intro _; exact Int.le_refl _
      | cons a r ih =>
        intro h
        have := ih (fun k hk => h k (by simp [hk]))
        have := p1 a (h a (by simp))
        show 0 ≤ out.getD a 0 + sumC out r
        omega
    have ht := pt t (fun k hk' => hk k (by simp [hk']))
    have hs' : out.getD last 0 + (out.getD k 0 + sumC out t) ≤ M := hs
    have hg : gStep out ⟨⟨#[]⟩, (last : Int), (k : Int)⟩ = some (out.getD last 0 + out.getD k 0) := by
      unfold gStep
      rw [if_pos (by rfl), if_pos ?_]
      · simp only [Int.toNat_natCast]
      · simp only [Int.toNat_natCast]; omega
    have hsum : ∀ (l : List Nat), (∀ k ∈ l, k < n) → sumC (out ++ [out.getD last 0 + out.getD k 0]) l = sumC out l := fun l => by
      induction l with
      | nil => intro _; rfl
      | cons a r ih =>
        intro h
        show (out ++ _).getD a 0 + sumC (out ++ _) r = out.getD a 0 + sumC out r
        rw [ih (fun k hk => h k (by simp [hk])), List.getD_eq_getElem?_getD, List.getElem?_append_left (by have := h a (by simp); omega), ← List.getD_eq_getElem?_getD]
    obtain ⟨ls', h⟩ := gLens_chain hM t (n + 1) n (out ++ [out.getD last 0 + out.getD k 0]) (by simp [hn]) (by omega) (fun k hk' => by have := hk k (by simp [hk']); omega)
      (fun x hx => by
        rcases List.mem_append.1 hx with hx | hx
        · exact ho x hx
        · have := p1 last hl; have := p1 k hkn
          rw [List.mem_singleton.1 hx]; omega)
      (by
        have e0 : (out ++ [out.getD last 0 + out.getD k 0]).getD n 0 = out.getD last 0 + out.getD k 0 := by
          rw [List.getD_eq_getElem?_getD, List.getElem?_append_right (by omega), hn, Nat.sub_self]; rfl
        rw [hsum t (fun k hk' => hk k (by simp [hk'])), e0]
        omega)
    refine ⟨ls', ?_⟩
    show (gStep out _).bind (fun n => gLens (chain _ _ t) (out ++ [n])) = _
    rw [hg]
    exact h
theorem cut_lens {rs : List Fac} {ls : List Int} (hls : gLens rs [] = some ls) (hll : ls.length = rs.length) {i j : Int} (hi : 0 ≤ i) (hij : i < j) (hj : j ≤ lastI ls) (hj2 : j ≤ 1000000000000000) : ∃ ls', gLens (cutL rs (covT ls rs i j)) [] = some ls' := by
  obtain ⟨hp, h1, h2, h3, h4⟩ := covT_ok hls hll hi hij hj
  rcases hc : covT ls rs i j with _ | ⟨c, _ | ⟨k, t⟩⟩
  · exact ⟨[], rfl⟩
  · exact gLens_take hls _
  · rw [hc] at h1 h3
    show ∃ ls', gLens (rs ++ chain rs.length c (k :: t)) [] = some ls'
    rw [gLens_app, hls]
    exact gLens_chain (M := 1000000000000000) (Int.le_refl _) (k :: t) rs.length c ls hll (h1 c (by simp)) (fun x hx => h1 x (by simp only [List.mem_cons] at hx ⊢; exact .inr hx)) (fun x hx => by
      obtain ⟨a, ha, he⟩ := List.getElem_of_mem hx
      have := (lens_bound hls (i := a) (by omega)).1
      rw [List.getD_eq_getElem?_getD, List.getElem?_eq_getElem ha] at this
      simpa [he] using this) (by
        have h3' : ls.getD c 0 + sumC ls (k :: t) = j - i := h3
        omega)
theorem cut_len {rs : List Fac} : ∀ (l : List Nat), (∀ k ∈ l, k < rs.length) → (cutL rs l).length ≤ rs.length + l.length
  | [], _ => by simp [cutL]
  | [c], _ => by show (rs.take (c + 1)).length ≤ _; simp; omega
  | c :: k :: t, _ => by show (rs ++ chain rs.length c (k :: t)).length ≤ _; rw [List.length_append, chain_len]; simp
section
variable {α : Type} (d : α) (F : Nat → α) (G : α → α → Fac → α)
/-- what is made of the pairs of a chain -/
theorem chain_fold (hG : ∀ x y r r', G x y r = G x y r') : ∀ (t : List Nat) (n last : Nat) (out : List α), out.length = n → last < n → (∀ k ∈ t, k < n) →
    (foldG d F G (chain n last t) out).getD (if t = [] then last else n + t.length - 1) d = t.foldl (fun s k => G s (out.getD k d) default) (out.getD last d)
  | [], _, _, _, _, _, _ => rfl
  | k :: t, n, last, out, hn, hl, hk => by
    have hkn := hk k (by simp)
    show (foldG d F G (chain (n + 1) n t) (out ++ [fStep d F G out ⟨⟨#[]⟩, (last : Int), (k : Int)⟩])).getD (if k :: t = [] then last else n + (t.length + 1) - 1) d = t.foldl (fun s k => G s (out.getD k d) default) (G (out.getD last d) (out.getD k d) default)
    have hf : fStep d F G out ⟨⟨#[]⟩, (last : Int), (k : Int)⟩ = G (out.getD last d) (out.getD k d) default := by
      unfold fStep
      rw [if_pos (by rfl)]
      simp only [Int.toNat_natCast]
      exact hG _ _ _ _
    rw [hf]
    have h := chain_fold hG t (n + 1) n (out ++ [G (out.getD last d) (out.getD k d) default]) (by simp [hn]) (by omega) (fun k hk' => by have := hk k (by simp [hk']); omega)
    rw [if_neg (by simp), show n + (t.length + 1) - 1 = if t = [] then n else n + 1 + t.length - 1 from ?_, h]
    · have e0 : (out ++ [G (out.getD last d) (out.getD k d) default]).getD n d = G (out.getD last d) (out.getD k d) default := by
        rw [List.getD_eq_getElem?_getD, List.getElem?_append_right (by omega), hn]; simp
      rw [e0]
      have : ∀ (l : List Nat) (s : α), (∀ k ∈ l, k < n) → l.foldl (fun s k' => G s ((out ++ [G (out.getD last d) (out.getD k d) default]).getD k' d) default) s = l.foldl (fun s k => G s (out.getD k d) default) s := fun l => by
        induction l with
        | nil => intro _ _; rfl
        | cons a r ih =>
          intro s h
          rw [List.foldl_cons, List.foldl_cons, ih _ (fun k hk => h k (by simp [hk]))]
          congr 2
          rw [List.getD_eq_getElem?_getD, List.getElem?_append_left (by have := h a (by simp); omega), ← List.getD_eq_getElem?_getD]
      exact this t _ (fun k hk' => hk k (by simp [hk']))
    · split
      · rename_i h; rw [h]; simp
      · omega
/-- what is made of the last rule of a part -/
theorem cut_full (hG : ∀ x y r r', G x y r = G x y r') {rs : List Fac} {c : Nat} {t : List Nat} (hk : ∀ k ∈ c :: t, k < rs.length) :
    (full d F G (cutL rs (c :: t))).getD ((cutL rs (c :: t)).length - 1) d = t.foldl (fun s k => G s ((full d F G rs).getD k d) default) ((full d F G rs).getD c d) := by
  have hc := hk c (by simp)
  rcases t with _ | ⟨k, t⟩
  · show (full d F G (rs.take (c + 1))).getD ((rs.take (c + 1)).length - 1) d = _
    rw [List.length_take, show min (c + 1) rs.length - 1 = c by omega]
    exact outs_full d F G (k := c + 1) (by omega) (by omega)
  · show (full d F G (rs ++ chain rs.length c (k :: t))).getD ((rs ++ chain rs.length c (k :: t)).length - 1) d = _
    unfold full
    rw [foldG_app, List.length_append, chain_len]
    have h := chain_fold d F G hG (k :: t) rs.length c (foldG d F G rs []) (by rw [foldG_len]; simp) hc (fun x hx => hk x (by simp only [List.mem_cons] at hx ⊢; exact .inr hx))
    rw [if_neg (by simp)] at h
    exact h
end
end Go.Proofs.Ytgdbpkpaacbhhaa
