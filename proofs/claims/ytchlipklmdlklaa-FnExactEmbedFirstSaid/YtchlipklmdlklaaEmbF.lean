/-
  EmbedFirst in the program and in the reference.
-/
import Derived.Test.YtchlipklmdlklaaEmbS
namespace Go.Proofs.Ytchlipklmdlklaa
open Go.RowKit

def embFC (rs : List Fac) (p : ByteArray) : Int := if (gOk rs).isSome = false then 1 else if okW p = false then 1 else if (embAll rs ((gLens rs []).getD []) p).length < p.size then 6 else 0
def embFL (rs : List Fac) (p : ByteArray) : List Int := if embFC rs p = 0 then embAll rs ((gLens rs []).getD []) p else []
theorem embF1 {rs : List Fac} {p : ByteArray} (h : (gOk rs).isSome = false) : embFC rs p = 1 ∧ embFL rs p = [] := by
  have e : embFC rs p = 1 := by unfold embFC; rw [if_pos h]
  exact ⟨e, by unfold embFL; rw [if_neg (by rw [e]; decide)]⟩
theorem embF2 {rs : List Fac} {p : ByteArray} (h : (gOk rs).isSome = true) (h2 : okW p = false) : embFC rs p = 1 ∧ embFL rs p = [] := by
  have e : embFC rs p = 1 := by unfold embFC; rw [if_neg (by rw [h]; decide), if_pos h2]
  exact ⟨e, by unfold embFL; rw [if_neg (by rw [e]; decide)]⟩
theorem embF3 {rs : List Fac} {ls : List Int} {p : ByteArray} (hls : gLens rs [] = some ls) (h : (gOk rs).isSome = true) (h2 : okW p = true) (h3 : (embAll rs ls p).length < p.size) : embFC rs p = 6 ∧ embFL rs p = [] := by
  have e : embFC rs p = 6 := by unfold embFC; rw [if_neg (by rw [h]; decide), if_neg (by rw [h2]; decide), hls, if_pos (show (embAll rs ((some ls).getD []) p).length < p.size from h3)]
  exact ⟨e, by unfold embFL; rw [if_neg (by rw [e]; decide)]⟩
theorem embF4 {rs : List Fac} {ls : List Int} {p : ByteArray} (hls : gLens rs [] = some ls) (h : (gOk rs).isSome = true) (h2 : okW p = true) (h3 : ¬ (embAll rs ls p).length < p.size) : embFC rs p = 0 ∧ embFL rs p = embAll rs ls p := by
  have e : embFC rs p = 0 := by unfold embFC; rw [if_neg (by rw [h]; decide), if_neg (by rw [h2]; decide), hls, if_neg (show ¬ (embAll rs ((some ls).getD []) p).length < p.size from h3)]
  exact ⟨e, by unfold embFL; rw [if_pos e, hls]; rfl⟩
theorem embFL_len (rs : List Fac) (p : ByteArray) : (embFL rs p).length ≤ p.size := by
  unfold embFL
  split
  · have := embGo_len rs ((gLens rs []).getD []) p.data.toList 0
    rw [byte_len] at this
    exact this
  · simp
set_option maxHeartbeats 2000000 in
set_option maxRecDepth 100000 in
theorem implEmbF_any (A : Option Addr) (n c : Nat) (rs : List Fac) (s : ByteArray) (w : World) (hn : n ≤ 1048576) (hr : Rd w w.heap.size A n 3 Fac.cells rs) (hok : ∀ f ∈ rs, f.l.size ≤ maxLen) (hs : s.size ≤ maxLen) :
    Calls Try.prog 10 #[.agg #[.slice A n c], .string s] w (RetNewC w 2 1 intE (embFL rs s) (embFC rs s)) := by
  have hl := Lib.hid hr.len
  have HR := Lib.hid hr; clear hr
  have HO := Lib.hid hok; clear hok
  go_enter Try.func10, Try.ntmps10
  go_wp2_with fail
  refine namedC fun w0 H0 => ?_
  have hb0 : Below w.heap.size w w0 := by rw [H0.out]; (repeat first | exact Below.refl _ _ | assumption | refine Below.drew ?_ | refine Below.alloc ?_ (by first | exact Nat.le_refl _ | (simp; done) | omega | (simp; omega)) _ | refine Below.setCell ?_ (by first | exact Nat.le_refl _ | (simp; done) | omega | (simp; omega)) _)
  clear H0
  refine (census_any A n c rs w0 hn (HR.out.next hb0) HO.out).mono ?_
  rintro e w1 ⟨hb1, ⟨ls, A2, c2, A3, c3, hg, rfl, own2, own3⟩ | ⟨hg, rfl⟩⟩
  case inr =>
    obtain ⟨e1, e2⟩ := embF1 (p := s) (show (gOk rs).isSome = false by rw [hg]; rfl)
    have E1 := Lib.hid e1; have E2 := Lib.hid e2
    clear hg e1 e2
    go_wp2_with fail
    go_ret2
    rw [E1.out, E2.out]
    exact ⟨none, 0, rfl, World.ownsRow_nil _ _ _ _, (hb0.trans (hb1.mono hb0.size)).alloc (by have := hb0.size; have := hb1.size; omega) _⟩
  have HG := Lib.hid (show (gOk rs).isSome = true by rw [hg]; rfl)
  have HL := Lib.hid (gOk_lens hg).1
  have hll0 := Lib.hid (gOk_lens hg).2.2
  have hll := Lib.hid ((gOk_lens hg).2.2.trans hl.out)
  clear hg
  have b1 := hb0.trans (hb1.mono hb0.size)
  have r2 := Lib.hid (Rd.of_own (enc := intE) (fun _ _ => rfl) hll.out own2)
  have r3 := Lib.hid (Rd.of_own (fun y _ => lenQ4 y) rfl own3)
  clear own2 own3
  generalize hN : (foldAll Q4.nil cntF cntG Q4.nil rs).length = N at *
  have HN := Lib.hid hN; clear hN
  go_wp2_with fail
  refine namedC fun w2 H2 => ?_
  have hb2 : Below w1.heap.size w1 w2 := by rw [H2.out]; (repeat first | exact Below.refl _ _ | assumption | refine Below.drew ?_ | refine Below.alloc ?_ (by first | exact Nat.le_refl _ | (simp; done) | omega | (simp; omega)) _ | refine Below.setCell ?_ (by first | exact Nat.le_refl _ | (simp; done) | omega | (simp; omega)) _)
  have BC := Lib.hid (show Blk w2 w1.heap.size 63 #[.slice A n c, .slice A2 n c2, .slice A3 N c3] by rw [H2.out]; exact Blk.new _ _ _)
  clear H2
  have b2 := b1.trans (hb2.mono b1.size)
  rcases h2 : okW s with _ | _
  · obtain ⟨e1, e2⟩ := embF2 HG.out h2
    have H2 := Lib.hid h2; clear h2
    have E1 := Lib.hid e1; have E2 := Lib.hid e2
    clear e1 e2
    refine (validWord_any s false _ hs H2.out).mono ?_
    rintro e1 w3 ⟨rfl, hb3⟩
    go_wp2_with fail
    go_ret2
    rw [E1.out, E2.out]
    exact ⟨none, 0, rfl, World.ownsRow_nil _ _ _ _, b2.trans (hb3.mono b2.size)⟩
  have H2 := Lib.hid h2; clear h2
  refine (validWord_any s true _ hs H2.out).mono ?_
  rintro e1 w3 ⟨rfl, hb3⟩
  have b3 := b2.trans (hb3.mono b2.size)
  have hb13 := hb2.trans (hb3.mono hb2.size)
  have BC3 := BC.out.next hb3
  obtain ⟨d0, d1, d2⟩ := BC3.three
  have l3 := BC3.lt
  clear BC3
  go_wp2_with fail
  refine (embed_any A n c rs A2 c2 A3 N c3 ls s w3 hn (HR.out.next b3) HL.out hll0.out (r2.out.next hb13) HN.out (r3.out.next hb13) H2.out).mono ?_
  rintro e1 w4 ⟨A4, c4, rfl, own4, hb4⟩
  have O4 := Lib.hid own4; clear own4
  have b4 := b3.trans (hb4.mono b3.size)
  by_cases h4 : (embAll rs ls s).length < s.size
  · obtain ⟨e1, e2⟩ := embF3 HL.out HG.out H2.out h4
    have E1 := Lib.hid e1; have E2 := Lib.hid e2
    clear e1 e2
    go_wp2_with fail
    go_ret2
    rw [E1.out, E2.out]
    exact ⟨none, 0, rfl, World.ownsRow_nil _ _ _ _, b4⟩
  · obtain ⟨e1, e2⟩ := embF4 HL.out HG.out H2.out h4
    have E1 := Lib.hid e1; have E2 := Lib.hid e2
    clear e1 e2
    go_wp2_with fail
    go_ret2
    rw [E1.out, E2.out]
    exact ⟨A4, c4, rfl, O4.out.mono b3.size, b4⟩
set_option maxHeartbeats 2000000 in
set_option maxRecDepth 100000 in
theorem specEmbF_any (A : Option Addr) (n c : Nat) (rs : List Fac) (s : ByteArray) (w : World) (hn : n ≤ 1048576) (hr : Rd w w.heap.size A n 3 Fac.cells rs) (hok : ∀ f ∈ rs, f.l.size ≤ maxLen) (hs : s.size ≤ maxLen) :
    Calls Try.prog 8 #[.agg #[.slice A n c], .string s] w (RetNewC w 2 1 intE (embFL rs s) (embFC rs s)) := by
  have hb0 : Below w.heap.size w (w.alloc (.cells #[.slice A n c] 31)) := by (repeat first | exact Below.refl _ _ | assumption | refine Below.drew ?_ | refine Below.alloc ?_ (by first | exact Nat.le_refl _ | (simp; done) | omega | (simp; omega)) _ | refine Below.setCell ?_ (by first | exact Nat.le_refl _ | (simp; done) | omega | (simp; omega)) _)
  have hB0 := Lib.hid (Blk.new w 31 #[.slice A n c])
  have hl := Lib.hid hr.len
  have HR := Lib.hid hr; clear hr
  have HO := Lib.hid hok; clear hok
  have hmade := Lib.hid (fun (w' : World) (h : w.heap.size ≤ w'.heap.size) => show (w'.alloc (.cells #[] 2)).ownsRow w.heap.size 2 1 (.slice (some ⟨w'.heap.size, 0, none⟩) 0 0) 0 (([] : List Int).flatMap intE) from by
    simpa using World.ownsRow_made (base := w.heap.size) (e := 2) (size := 1) w' #[] 0 h (by unfold maxLen; omega) rfl)
  rcases hg : (gOk rs).isSome with _ | _
  · obtain ⟨e1, e2⟩ := embF1 (p := s) hg
    have Hg := Lib.hid hg; clear hg
    have E1 := Lib.hid e1; have E2 := Lib.hid e2
    clear e1 e2
    go_enter Try.func8, Try.ntmps8
    go_wp2_with fail
    refine (l02Ok_any w.heap.size A n c rs _ hB0.out.lt (hB0.out.cell 0) (by omega) (HR.out.next hb0) HO.out false Hg.out).mono ?_
    rintro e1 w1 ⟨rfl, hb1⟩
    have b1 := hb0.trans (hb1.mono hb0.size)
    go_wp2_with fail
    go_ret2
    rw [E1.out, E2.out]
    exact ⟨_, 0, rfl, hmade.out w1 b1.size, b1.alloc b1.size _⟩
  have HG := Lib.hid hg
  obtain ⟨ls, hls⟩ := Option.isSome_iff_exists.1 hg
  have Hk := Lib.hid hls
  have HL := Lib.hid (gOk_lens hls).1
  clear hg hls
  rcases h2 : okW s with _ | _
  · obtain ⟨e1, e2⟩ := embF2 HG.out h2
    have H2 := Lib.hid h2; clear h2
    have E1 := Lib.hid e1; have E2 := Lib.hid e2
    clear e1 e2
    go_enter Try.func8, Try.ntmps8
    go_wp2_with fail
    refine (l02Ok_any w.heap.size A n c rs _ hB0.out.lt (hB0.out.cell 0) (by omega) (HR.out.next hb0) HO.out true HG.out).mono ?_
    rintro e1 w1 ⟨rfl, hb1⟩
    go_wp2_with fail
    refine (specOk_any s false _ hs H2.out).mono ?_
    rintro e1 w2 ⟨rfl, hb2⟩
    have b2 := hb0.trans ((hb1.trans (hb2.mono hb1.size)).mono hb0.size)
    go_wp2_with fail
    go_ret2
    rw [E1.out, E2.out]
    exact ⟨_, 0, rfl, hmade.out w2 b2.size, b2.alloc b2.size _⟩
  have H2 := Lib.hid h2; clear h2
  have h34 : ((embAll rs ls s).length < s.size ∧ embFC rs s = 6 ∧ embFL rs s = []) ∨ (¬ (embAll rs ls s).length < s.size ∧ embFC rs s = 0 ∧ embFL rs s = embAll rs ls s) := by
    by_cases h4 : (embAll rs ls s).length < s.size
    · exact Or.inl ⟨h4, embF3 HL.out HG.out H2.out h4⟩
    · exact Or.inr ⟨h4, embF4 HL.out HG.out H2.out h4⟩
  rcases h34 with ⟨h4, e1, e2⟩ | ⟨h4, e1, e2⟩
  all_goals
    have E1 := Lib.hid e1; have E2 := Lib.hid e2
    clear e1 e2
    go_enter Try.func8, Try.ntmps8
    go_wp2_with fail
    refine (l02Ok_any w.heap.size A n c rs _ hB0.out.lt (hB0.out.cell 0) (by omega) (HR.out.next hb0) HO.out true HG.out).mono ?_
    rintro e1 w1 ⟨rfl, hb1⟩
    go_wp2_with fail
    refine (specOk_any s true _ hs H2.out).mono ?_
    rintro e1 w3 ⟨rfl, hb3⟩
    have b3 := hb0.trans ((hb1.trans (hb3.mono hb1.size)).mono hb0.size)
    have B3 := Lib.hid ((hB0.out.next hb1).next hb3)
    go_wp2_with fail
    refine (l05Embed_any w.heap.size A n c rs ls s w3 B3.out.lt (B3.out.cell 0) hn (HR.out.next b3) HO.out Hk.out H2.out).mono ?_
    rintro e1 w4 ⟨A4, c4, rfl, own4, hb4⟩
    have O4 := Lib.hid own4; clear own4
    have b4 := b3.trans (hb4.mono b3.size)
    go_wp2_with fail
    go_ret2
    rw [E1.out, E2.out]
    first
      | exact ⟨A4, c4, rfl, O4.out.mono b3.size, b4⟩
      | exact ⟨_, 0, rfl, hmade.out w4 b4.size, b4.alloc b4.size _⟩
end Go.Proofs.Ytchlipklmdlklaa
