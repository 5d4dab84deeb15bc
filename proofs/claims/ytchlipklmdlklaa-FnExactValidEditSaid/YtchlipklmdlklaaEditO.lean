/-
  An argument that is an edit: four numbers, a grammar and a text.
-/
import Derived.Test.YtchlipklmdlklaaLaw
namespace Go.Proofs.Ytchlipklmdlklaa
open Go.ChangeShapes Go.WideShapes Go.ChangeAt Go.RowKit Go.Deep

section
variable {H : Type} {enc : TypeId × Value → H} {P : Program} {w : World} {base : Nat} {spare : Nat → Bool} {held : Bool}
theorem i64_of {z : Int} (w1 : (Lit.int .i64 z).wf = true) : I64 z := by
  simpa [I64, Lit.wf, IntKind.min, IntKind.max, IntKind.signed, IntKind.bits] using w1
theorem open_edit {g e : TypeId} {F0 F1 F2 F3 F4 F5 f f0 f1 f2 : Field} {r : Reach} {b0 : Nat} {v : Value} {d : DataW H} {p : List MemPlace} (hg : P.underlying g = some (.struct #[F0, F1, F2, F3, F4, F5])) (hone1 : oneCellFields P #[F0, F1, F2, F3, F4, F5] = true) (hC1 : P.cellsOf g = 6)
    (u0 : P.underlying F0.type = some (.int .i64)) (u1 : P.underlying F1.type = some (.int .i64)) (u2 : P.underlying F2.type = some (.int .i64)) (u3 : P.underlying F3.type = some (.int .i64)) (u4 : P.underlying F4.type = some (.struct #[f])) (u5 : P.underlying F5.type = some .string)
    (hone2 : oneCellFields P #[f] = true) (ht : P.underlying f.type = some (.slice e)) (he : P.underlying e = some (.struct #[f0, f1, f2]))
    (hone : oneCellFields P #[f0, f1, f2] = true) (hC : P.cellsOf e = 3) (t0 : P.underlying f0.type = some .string) (t1 : P.underlying f1.type = some (.int .i64)) (t2 : P.underlying f2.type = some (.int .i64))
    (hv : Value.okWide P w r b0 g v) (h : DataW.Trod enc P w base spare held g v d p) :
    ∃ k i j l A n c fs mp, v = .agg #[.int .i64 k, .int .i64 i, .int .i64 j, .int .i64 l, .slice A n c, .string mp] ∧ I64 k ∧ I64 i ∧ I64 j ∧ I64 l ∧ n ≤ maxLen ∧ Rd w w.heap.size A n 3 Fac.cells fs ∧ (∀ f ∈ fs, Fac.ok f) ∧ mp.size ≤ maxLen := by
  obtain ⟨cs, rfl, hsz⟩ := okWide_struct hg hv
  obtain ⟨l⟩ := cs
  match l, hsz.trans hC1 with
  | [x0, x1, x2, x3, x4, x5], _ =>
    obtain ⟨fuel, hf⟩ := h
    obtain ⟨ys, n', hn', hy, hlen, hyl, hfld⟩ := DataW.trod_struct hg hf
    obtain ⟨o0, k0⟩ := hone_of hone1 0 F0 rfl
    obtain ⟨o1, k1⟩ := hone_of hone1 1 F1 rfl
    obtain ⟨o2, k2⟩ := hone_of hone1 2 F2 rfl
    obtain ⟨o3, k3⟩ := hone_of hone1 3 F3 rfl
    obtain ⟨o4, k4⟩ := hone_of hone1 4 F4 rfl
    obtain ⟨o5, k5⟩ := hone_of hone1 5 F5 rfl
    match ys, hyl with
    | [y0, y1, y2, y3, y4, y5], _ =>
      have q0 := hfld 0 F0 rfl
      have q1 := hfld 1 F1 rfl
      have q2 := hfld 2 F2 rfl
      have q3 := hfld 3 F3 rfl
      have q4 := hfld 4 F4 rfl
      have q5 := hfld 5 F5 rfl
      simp only [o0, k0, o1, k1, o2, k2, o3, k3, o4, k4, o5, k5] at q0 q1 q2 q3 q4 q5
      obtain ⟨z0, e0, _, w0⟩ := DataW.trod_int u0 (x := y0) (by simpa [Value.cells] using q0)
      obtain ⟨z1, e1, _, w1⟩ := DataW.trod_int u1 (x := y1) (by simpa [Value.cells] using q1)
      obtain ⟨z2, e2, _, w2⟩ := DataW.trod_int u2 (x := y2) (by simpa [Value.cells] using q2)
      obtain ⟨z3, e3, _, w3⟩ := DataW.trod_int u3 (x := y3) (by simpa [Value.cells] using q3)
      obtain ⟨s, e5, _, hs⟩ := DataW.trod_string u5 (x := y5) (by simpa [Value.cells] using q5)
      have q4' : DataW.trod enc P w base spare held n' F4.type [x4] = some y4 := by simpa [Value.cells] using q4
      obtain ⟨ys2, n2, hn2, hy2, hlen2, hyl2, hfld2⟩ := DataW.trod_struct u4 q4'
      obtain ⟨p0, r0⟩ := hone_of hone2 0 f rfl
      match ys2, hyl2 with
      | [y40], _ =>
        have q6 := hfld2 0 f rfl
        simp only [p0, r0] at q6
        have q7 : DataW.trod enc P w base spare held n2 f.type [x4] = some y40 := by simpa using q6
        obtain ⟨A, n, c, fs, hcs, h2, h3, h4⟩ := facs_of_trod ht he hone hC t0 t1 t2 q7
        obtain rfl : x4 = .slice A n c := by simpa using hcs
        simp at e0 e1 e2 e3 e5
        subst e0 e1 e2 e3 e5
        exact ⟨z0, z1, z2, z3, A, n, c, fs, s, rfl, i64_of w0, i64_of w1, i64_of w2, i64_of w3, h2, h3, h4, hs⟩
end
end Go.Proofs.Ytchlipklmdlklaa
