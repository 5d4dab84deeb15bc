
/-
  FactorsText on both sides.
-/
import Derived.Test.YtcpofhjoblgmgaaDoorDec
import Derived.Test.YtcpofhjoblgmgaaDoorLen
import Derived.WalkSmall
import Derived.Lib.LaidTab
namespace Go.Proofs.YtcpofhjoblgmgaaDoor
open Go.RowKit

def nlB : ByteArray := ⟨#[10]⟩
def spB : ByteArray := ⟨#[32]⟩
/-- a factor's line -/
def lineT (f : Fac) : ByteArray := if f.l.size = 0 then ((decS f.a.toNat ++ spB) ++ decS f.b.toNat) ++ nlB else f.l ++ nlB
def textT : List Fac → ByteArray → ByteArray
  | [], out => out
  | f :: r, out => textT r (out ++ lineT f)
def txtF (fs : List Fac) : ByteArray := if (facTotal fs).isSome then textT fs ⟨#[]⟩ else ⟨#[]⟩
/-- what is asked of a factor -/
def FacOk (f : Fac) : Prop := (f.l.size = 0 ∧ 0 ≤ f.a ∧ f.a ≤ 1000000000000000 ∧ 0 ≤ f.b ∧ f.b ≤ 1000000000000000) ∨ f.l.size = 1
theorem facLen_ok : ∀ (fs : List Fac) (t N : Int), 0 ≤ t → t ≤ 1000000000000000 → facLen fs t = some N → ∀ f ∈ fs, FacOk f
  | [], _, _, _, _, _, f, hf => by simp at hf
  | g :: r, t, N, h0, h1, h, f, hf => by
    unfold facLen at h
    obtain ⟨m, hm, h2⟩ := Option.bind_eq_some_iff.1 h
    unfold facStep at hm
    split at hm
    · rename_i hl
      split at hm
      · rename_i hc
        injection hm with hm
        rcases List.mem_cons.1 hf with rfl | hf
        · exact .inl ⟨hl, by omega, by omega, by omega, by omega⟩
        · exact facLen_ok r m N (by omega) (by omega) h2 f hf
      · cases hm
    · rename_i hl
      split at hm
      · rename_i hc
        injection hm with hm
        rcases List.mem_cons.1 hf with rfl | hf
        · obtain ⟨c, hcc⟩ : ∃ c, f.l = ⟨#[c]⟩ := by
            by_cases h1 : f.l.size = 1
            · exact one_byte h1
            · have := hc.1
              rw [letT_not h1] at this; cases this
          right; rw [hcc]; rfl
        · exact facLen_ok r m N (by omega) (by omega) h2 f hf
      · cases hm
theorem facTotal_ok {fs : List Fac} {N : Int} (h : facTotal fs = some N) : fs.length ≤ 120 ∧ ∀ f ∈ fs, FacOk f := by
  unfold facTotal at h
  split at h
  · cases h
  · exact ⟨by omega, facLen_ok fs 0 N (by omega) (by omega) h⟩
theorem lineT_size {f : Fac} (h : FacOk f) : (lineT f).size ≤ 3000000000000000 := by
  unfold lineT
  rcases h with ⟨h0, h1, h2, h3, h4⟩ | h0
  · rw [if_pos h0]
    simp only [ByteArray.size_append]
    have e1 := decS_size f.a.toNat
    have e2 := decS_size f.b.toNat
    have e3 : nlB.size = 1 := rfl
    have e4 : spB.size = 1 := rfl
    omega
  · rw [if_neg (by omega), ByteArray.size_append, h0]
    have e3 : nlB.size = 1 := rfl
    omega
abbrev TabD (w : World) : Prop := Lib.TabIs Tryd.prog w "internal/strconv.uint64pow10" .u64 Lib.pow10Tab
theorem tab_glob : Tryd.prog.globalNamed "internal/strconv.uint64pow10" = some 5 := by kernel_rfl
theorem tab_lt {w : World} (h : TabD w) : 5 < w.heap.size := by
  have := h.cell tab_glob 0 (by decide)
  rcases Nat.lt_or_ge 5 w.heap.size with q | q
  · exact q
  · unfold World.cell? at this
    rw [Array.getElem?_eq_none (by omega)] at this
    simp at this
theorem tab_up {w w' : World} (h : TabD w) (hb : Below w.heap.size w w') : TabD w' := var?_below hb tab_glob (tab_lt h) h
end Go.Proofs.YtcpofhjoblgmgaaDoor
