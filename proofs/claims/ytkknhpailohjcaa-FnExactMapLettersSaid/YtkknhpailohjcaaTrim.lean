/-
  TrimGrammar on both sides.
-/
import Derived.Test.YtkknhpailohjcaaTrimI
import Derived.Test.YtkknhpailohjcaaTrimS
import Derived.Test.YtkknhpailohjcaaGramV
namespace Go.Proofs.Ytkknhpailohjcaa
open Go.RowKit

/-- a grammar in new memory, and a code -/
def RetGC (w0 : World) (xs : List Fac) (k : Int) (e : Ending) (w' : World) : Prop :=
  ∃ A c, e = .returned (.tuple #[.agg #[.slice A xs.length c], .int .i64 k]) ∧ w'.ownsRow w0.heap.size 75 3 (.slice A xs.length c) xs.length (xs.flatMap Fac.cells) ∧ Below w0.heap.size w0 w'
def trimF (rs : List Fac) : List Fac := if (gOk rs).isSome then trimL rs else []
def trimC (rs : List Fac) : Int := if (gOk rs).isSome then 0 else 1
theorem outT_len (used : List Bool) : ∀ (ks : List Fac) (i : Nat) (out : List Fac) (at_ : List Int), (outT used i ks out at_).length ≤ out.length + ks.length
  | [], i, out, at_ => by simp [outT]
  | r :: ks, i, out, at_ => by
    rw [outT]
    split
    · have := outT_len used ks (i + 1) (out ++ [trR at_ r]) (at_.set i (out.length : Int))
      simp only [List.length_append, List.length_singleton] at this
      simp only [List.length_cons]; omega
    · have := outT_len used ks (i + 1) out at_
      simp only [List.length_cons]; omega
theorem trK_len : ∀ (rs kept : List Fac) (same : List Int), (trK rs kept same).1.length = kept.length + rs.length
  | [], kept, same => by simp [trK]
  | r :: rs, kept, same => by
    rw [trK, trK_len rs]; simp; omega
theorem trimF_len (rs : List Fac) : (trimF rs).length ≤ rs.length := by
  unfold trimF
  split
  · unfold trimL
    split
    · simp
    · have h1 := outT_len (useT (trK rs [] []).1 rs.length (use0 rs.length (trK rs [] []).2)) (trK rs [] []).1 0 [] (List.replicate rs.length 0)
      have h2 := trK_len rs [] []
      simp only [List.length_nil, Nat.zero_add] at h1 h2
      omega
  · simp
set_option maxHeartbeats 1000000 in
set_option maxRecDepth 100000 in
theorem implTrim_any (A : Option Addr) (n c : Nat) (rs : List Fac) (w : World) (hn : n ≤ 1048576) (hr : Rd w w.heap.size A n 3 Fac.cells rs) (hok : ∀ f ∈ rs, f.l.size ≤ maxLen) :
    Calls Try.prog 26 #[.agg #[.slice A n c]] w (RetGC w (trimF rs) (trimC rs)) := by
  have hb0 : Below w.heap.size w (w.alloc (.cells #[.slice A n c] 31)) := by (repeat first | exact Below.refl _ _ | assumption | refine Below.drew ?_ | refine Below.alloc ?_ (by first | exact Nat.le_refl _ | (simp; done) | omega | (simp; omega)) _ | refine Below.setCell ?_ (by first | exact Nat.le_refl _ | (simp; done) | omega | (simp; omega)) _)
  have hB0 := Lib.hid (Blk.new w 31 #[.slice A n c])
  have HR := Lib.hid hr; clear hr
  have HO := Lib.hid hok; clear hok
  have hT : trimF rs = (if (gOk rs).isSome then trimL rs else []) := rfl
  have hC : trimC rs = (if (gOk rs).isSome then 0 else 1) := rfl
  have HT := Lib.hid hT; have HC := Lib.hid hC
  clear hT hC
  generalize trimF rs = T at *
  generalize trimC rs = C at *
  go_enter Try.func26, Try.ntmps26
  go_wp2_with fail
  refine namedC fun w3 H3 => ?_
  have hb3 : Below w.heap.size w w3 := by rw [H3.out]; (repeat first | exact Below.refl _ _ | assumption | refine Below.drew ?_ | refine Below.alloc ?_ (by first | exact Nat.le_refl _ | (simp; done) | omega | (simp; omega)) _ | refine Below.setCell ?_ (by first | exact Nat.le_refl _ | (simp; done) | omega | (simp; omega)) _)
  have BG := Lib.hid (show Blk w3 w.heap.size 31 #[.slice A n c] by rw [H3.out]; exact hB0.out.alloc _)
  have BC := Lib.hid (show Blk w3 (w.heap.size + 1) 31 #[.slice none 0 0] by rw [H3.out]; simpa using Blk.new (w.alloc (.cells #[.slice A n c] 31)) 31 #[.slice none 0 0])
  clear H3
  rcases hg : (gOk rs).isSome with _ | _
  · have Hg := Lib.hid hg
    have eT := HT.out; have eC := HC.out
    rw [hg] at eT eC
    obtain rfl : T = [] := eT
    obtain rfl : C = 1 := eC
    clear hg HT HC
    refine (validG_any A n c rs w3 (by omega) (HR.out.next hb3) HO.out false Hg.out).mono ?_
    rintro e1 w4 ⟨rfl, hb4⟩
    have b4 := hb3.trans (hb4.mono hb3.size)
    have BC4 := BC.out.next hb4
    have d4 := BC4.cell 0
    have f4 := BC4.frozen
    have l4 := BC4.lt
    have B5 := BC4.set_ 0 (.slice none 0 0)
    have x5 : (w4.setCell ⟨w.heap.size + 1, 0, none⟩ (.slice none 0 0)).cell? ⟨w.heap.size + 1, 0, none⟩ = some (.slice none 0 0) := by rw [B5.cell 0]; rfl
    have b5 := b4.setCell (p := ⟨w.heap.size + 1, 0, none⟩) (by simp) (.slice none 0 0)
    clear B5 BC4
    go_wp2_with fail
    refine bodyPost_ret (v := .tuple #[.agg #[.slice none 0 0], .int .i64 1]) (by simp [results, Try.results26, go_sem, x5]) rfl ⟨none, 0, rfl, World.ownsRow_nil _ _ _ _, b5⟩
  · have Hg := Lib.hid hg
    have eT := HT.out; have eC := HC.out
    rw [hg] at eT eC
    obtain rfl : T = trimL rs := eT
    obtain rfl : C = 0 := eC
    clear hg HT HC
    obtain ⟨ls, hls⟩ := Option.isSome_iff_exists.1 Hg.out
    have hwf := Lib.hid (wf_of (gOk_lens hls).1)
    refine (validG_any A n c rs w3 (by omega) (HR.out.next hb3) HO.out true Hg.out).mono ?_
    rintro e1 w4 ⟨rfl, hb4⟩
    have b4 := hb3.trans (hb4.mono hb3.size)
    have BC4 := Lib.hid (BC.out.next hb4)
    have BG4 := Lib.hid (BG.out.next hb4)
    have g4 := BG4.out.cell 0
    have k4 := BG4.out.lt
    go_wp2_with fail
    refine (trimmed_any A n c rs w4 hn (HR.out.next b4) hwf.out).mono ?_
    rintro e1 w5 ⟨A5, c5, rfl, own5, hb5⟩
    generalize trimL rs = T at *
    have b5 := b4.trans (hb5.mono b4.size)
    have BC5 := BC4.out.next hb5
    have d5 := BC5.cell 0
    have f5 := BC5.frozen
    have l5 := BC5.lt
    have B6 := BC5.set_ 0 (.slice A5 T.length c5)
    have x6 : (w5.setCell ⟨w.heap.size + 1, 0, none⟩ (.slice A5 T.length c5)).cell? ⟨w.heap.size + 1, 0, none⟩ = some (.slice A5 T.length c5) := by rw [B6.cell 0]; rfl
    have b6 := Lib.hid (b5.setCell (p := ⟨w.heap.size + 1, 0, none⟩) (by simp) (.slice A5 T.length c5))
    have O6 := Lib.hid ((own5.kept (gb_set w5 (w.heap.size + 1) 0 (.slice A5 T.length c5)) (.inr fun e => own_blk_ne own5 BC5 (by decide) e.symm)).mono b4.size)
    clear B6 BC5 own5 b5 hb5
    go_wp2_with fail
    refine bodyPost_ret (v := .tuple #[.agg #[.slice A5 T.length c5], .int .i64 0]) (by simp [results, Try.results26, go_sem, x6]) rfl ⟨A5, c5, rfl, O6.out, b6.out⟩
set_option maxHeartbeats 1000000 in
set_option maxRecDepth 100000 in
theorem specTrim_any (A : Option Addr) (n c : Nat) (rs : List Fac) (w : World) (hn : n ≤ 1048576) (hr : Rd w w.heap.size A n 3 Fac.cells rs) (hok : ∀ f ∈ rs, f.l.size ≤ maxLen) :
    Calls Try.prog 25 #[.agg #[.slice A n c]] w (RetGC w (trimF rs) (trimC rs)) := by
  have hb0 : Below w.heap.size w (w.alloc (.cells #[.slice A n c] 31)) := by (repeat first | exact Below.refl _ _ | assumption | refine Below.drew ?_ | refine Below.alloc ?_ (by first | exact Nat.le_refl _ | (simp; done) | omega | (simp; omega)) _ | refine Below.setCell ?_ (by first | exact Nat.le_refl _ | (simp; done) | omega | (simp; omega)) _)
  have hB0 := Lib.hid (Blk.new w 31 #[.slice A n c])
  have HR := Lib.hid hr; clear hr
  have HO := Lib.hid hok; clear hok
  have hT : trimF rs = (if (gOk rs).isSome then trimL rs else []) := rfl
  have hC : trimC rs = (if (gOk rs).isSome then 0 else 1) := rfl
  have HT := Lib.hid hT; have HC := Lib.hid hC
  clear hT hC
  generalize trimF rs = T at *
  generalize trimC rs = C at *
  go_enter Try.func25, Try.ntmps25
  go_wp2_with fail
  refine namedC fun w3 H3 => ?_
  have hb3 : Below w.heap.size w w3 := by rw [H3.out]; (repeat first | exact Below.refl _ _ | assumption | refine Below.drew ?_ | refine Below.alloc ?_ (by first | exact Nat.le_refl _ | (simp; done) | omega | (simp; omega)) _ | refine Below.setCell ?_ (by first | exact Nat.le_refl _ | (simp; done) | omega | (simp; omega)) _)
  have BG := Lib.hid (show Blk w3 w.heap.size 31 #[.slice A n c] by rw [H3.out]; exact hB0.out.alloc _)
  have BC := Lib.hid (show Blk w3 (w.heap.size + 1) 31 #[.slice none 0 0] by rw [H3.out]; simpa using Blk.new (w.alloc (.cells #[.slice A n c] 31)) 31 #[.slice none 0 0])
  clear H3
  rcases hg : (gOk rs).isSome with _ | _
  · have Hg := Lib.hid hg
    have eT := HT.out; have eC := HC.out
    rw [hg] at eT eC
    obtain rfl : T = [] := eT
    obtain rfl : C = 1 := eC
    clear hg HT HC
    refine (l02Ok_any w.heap.size A n c rs w3 BG.out.lt (BG.out.cell 0) (by omega) (HR.out.next hb3) HO.out false Hg.out).mono ?_
    rintro e1 w4 ⟨rfl, hb4⟩
    have b4 := hb3.trans (hb4.mono hb3.size)
    have BC4 := BC.out.next hb4
    have d4 := BC4.cell 0
    have f4 := BC4.frozen
    have l4 := BC4.lt
    have B5 := BC4.set_ 0 (.slice none 0 0)
    have x5 : (w4.setCell ⟨w.heap.size + 1, 0, none⟩ (.slice none 0 0)).cell? ⟨w.heap.size + 1, 0, none⟩ = some (.slice none 0 0) := by rw [B5.cell 0]; rfl
    have b5 := b4.setCell (p := ⟨w.heap.size + 1, 0, none⟩) (by simp) (.slice none 0 0)
    clear B5 BC4
    go_wp2_with fail
    refine bodyPost_ret (v := .tuple #[.agg #[.slice none 0 0], .int .i64 1]) (by simp [results, Try.results25, go_sem, x5]) rfl ⟨none, 0, rfl, World.ownsRow_nil _ _ _ _, b5⟩
  · have Hg := Lib.hid hg
    have eT := HT.out; have eC := HC.out
    rw [hg] at eT eC
    obtain rfl : T = trimL rs := eT
    obtain rfl : C = 0 := eC
    clear hg HT HC
    obtain ⟨ls, hls⟩ := Option.isSome_iff_exists.1 Hg.out
    have hwf := Lib.hid (wf_of (gOk_lens hls).1)
    refine (l02Ok_any w.heap.size A n c rs w3 BG.out.lt (BG.out.cell 0) (by omega) (HR.out.next hb3) HO.out true Hg.out).mono ?_
    rintro e1 w4 ⟨rfl, hb4⟩
    have b4 := hb3.trans (hb4.mono hb3.size)
    have BC4 := Lib.hid (BC.out.next hb4)
    have BG4 := Lib.hid (BG.out.next hb4)
    have g4 := BG4.out.cell 0
    have k4 := BG4.out.lt
    go_wp2_with fail
    refine (l02Trim_any w.heap.size A n c rs w4 BG4.out.lt (BG4.out.cell 0) hn (HR.out.next b4) hwf.out).mono ?_
    rintro e1 w5 ⟨A5, c5, rfl, own5, hb5⟩
    generalize trimL rs = T at *
    have b5 := b4.trans (hb5.mono b4.size)
    have BC5 := BC4.out.next hb5
    have d5 := BC5.cell 0
    have f5 := BC5.frozen
    have l5 := BC5.lt
    have B6 := BC5.set_ 0 (.slice A5 T.length c5)
    have x6 : (w5.setCell ⟨w.heap.size + 1, 0, none⟩ (.slice A5 T.length c5)).cell? ⟨w.heap.size + 1, 0, none⟩ = some (.slice A5 T.length c5) := by rw [B6.cell 0]; rfl
    have b6 := Lib.hid (b5.setCell (p := ⟨w.heap.size + 1, 0, none⟩) (by simp) (.slice A5 T.length c5))
    have O6 := Lib.hid ((own5.kept (gb_set w5 (w.heap.size + 1) 0 (.slice A5 T.length c5)) (.inr fun e => own_blk_ne own5 BC5 (by decide) e.symm)).mono b4.size)
    clear B6 BC5 own5 b5 hb5
    go_wp2_with fail
    refine bodyPost_ret (v := .tuple #[.agg #[.slice A5 T.length c5], .int .i64 0]) (by simp [results, Try.results25, go_sem, x6]) rfl ⟨A5, c5, rfl, O6.out, b6.out⟩
end Go.Proofs.Ytkknhpailohjcaa
