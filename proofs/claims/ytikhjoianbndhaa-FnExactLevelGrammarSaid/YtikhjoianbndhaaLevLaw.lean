/-
  The statement FnExactLevelGrammar: for all arguments the program's LevelGrammar answers as the reference's, in memory of its own each time, and its arguments stay as they are. No condition.
-/
import Derived.Test.YtikhjoianbndhaaLvQ
import Derived.Test.YtikhjoianbndhaaLvZ
import Derived.Test.YtikhjoianbndhaaMarkG
import Derived.Test.YtikhjoianbndhaaLaw
import Derived.Deep.RegionHeld3
namespace Go.Proofs.Ytikhjoianbndhaa
open Go.ChangeShapes Go.WideShapes Go.ChangeAt Go.RowKit

/-- what is made later lies apart from what is marked -/
theorem own_later {w1 w w' : World} {b1 e1 s1 n1 e2 s2 n2 : Nat} {v1 v2 : Value} {xs1 xs2 : List Value} (h0 : w1.ownsRow b1 e1 s1 v1 n1 xs1) (h2 : w.ownsRow w1.heap.size e2 s2 v2 n2 xs2) (hg : w.grownBy w' v1.ownBlock) : w'.ownsRow w1.heap.size e2 s2 v2 n2 xs2 := by
  refine h2.kept hg ?_
  cases hv : v2.ownBlock with
  | none => exact .inl rfl
  | some q => exact .inr fun e => by have h3 := (h0.lt q e.symm).2; have h4 := own_ge h2 q hv; omega

set_option maxHeartbeats 2000000 in
set_option maxRecDepth 100000 in
theorem walkLev (A : Option Addr) (n c : Nat) (xs : List Fac) (w : World) (hn : n ≤ maxLen) (hx : Rd w w.heap.size A n 3 Fac.cells xs) (ox : ∀ f ∈ xs, Fac.ok f) :
    Calls Try.prog 6 #[.agg #[.slice A n c]] w (Ret (.bool true) w) := by
  have lx := Lib.hid hx.len
  have HX0 := Lib.hid hx
  have hsz : ∀ f ∈ xs, f.l.size ≤ maxLen := fun f hf => (ox f hf).1
  have Hsz := Lib.hid hsz; clear hsz
  go_enter Try.func6, Try.ntmps6
  go_wp2_with fail
  refine namedC fun w0 H0 => ?_
  have B0 : Blk w0 w.heap.size 32 #[.slice A n c] := by rw [H0.out]; exact Blk.new _ _ _
  have hb0 : Below w.heap.size w w0 := by rw [H0.out]; (repeat first | exact Below.refl _ _ | assumption | refine Below.drew ?_ | refine Below.alloc ?_ (by first | exact Nat.le_refl _ | (simp; done) | omega | (simp; omega)) _ | refine Below.setCell ?_ (by first | exact Nat.le_refl _ | (simp; done) | omega | (simp; omega)) _)
  clear H0
  have BG := Lib.hid B0; clear B0
  have hg := Lib.hid (szGrammar_any A n c xs 1048576 w0 (by omega) (by omega) hn (hx.next hb0) Hsz.out)
  by_cases hz : szFacAll 1048576 xs < 0
  · have hg' := hg.out
    rw [if_pos hz] at hg'
    have Hg := Lib.hid hg'; clear hg' hg hz
    refine Hg.out.mono ?_
    rintro e w1 ⟨rfl, hb1⟩
    go_wp2_with fail
    go_ret
    exact ⟨rfl, hb0.trans (hb1.mono hb0.size)⟩
  have hg' := hg.out
  rw [if_neg hz] at hg'
  have Hg := Lib.hid hg'; clear hg' hg
  have le1 := szFacAll_le 1048576 xs (by omega)
  have len1 := szFacAll_len 1048576 xs (by omega)
  have hn' : n ≤ 1048576 := by have := lx.out; omega
  have hz0 : 0 ≤ szFacAll 1048576 xs := by omega
  clear hz
  generalize szFacAll 1048576 xs = z at *
  have hln : (levF xs).length ≤ 1048576 := (by have := levF_len xs; omega)
  clear hx
  have SP := Lib.hid (fun (A2 : Option Addr) (c2 : Nat) (w2 : World) (r2 : Rd w2 w2.heap.size A2 xs.length 3 Fac.cells xs) => specLev_any A2 _ c2 xs w2 (by rw [lx.out]; exact hn') r2 Hsz.out)
  have IM := Lib.hid (fun (A2 : Option Addr) (c2 : Nat) (w2 : World) (r2 : Rd w2 w2.heap.size A2 xs.length 3 Fac.cells xs) => implLev_any A2 _ c2 xs w2 (by rw [lx.out]; exact hn') r2 Hsz.out)
  generalize levF xs = T at *
  generalize levC xs = C at *
  refine Hg.out.mono ?_
  rintro e w1 ⟨rfl, hb1⟩
  have bb1 := hb0.trans (hb1.mono hb0.size)
  have BG_1 := Lib.hid (BG.out.next hb1)
  have ccBG := BG_1.out.cell 0
  have llBG := BG_1.out.lt
  go_wp2_with fail
  refine (toGrammar_any A n c xs w1 hn' ((HX0.out.below bb1).more bb1.size)).mono ?_
  rintro e w2 ⟨A2, c2, rfl, own2, hb2⟩
  have bb2 := bb1.trans (hb2.mono bb1.size)
  have BG_2 := Lib.hid (BG_1.out.next hb2)
  have r2 := Lib.hid (Rd.of_own (fun x _ => fac_len x) rfl own2)
  clear own2
  clear ccBG llBG
  go_wp2_with fail
  refine (SP.out A2 c2 w2 r2.out).mono ?_
  rintro e w3 ⟨A3, c3, rfl, own3, hb3⟩
  have bb3 := bb2.trans (hb3.mono bb2.size)
  have BG_3 := Lib.hid (BG_2.out.next hb3)
  have OS := Lib.hid own3
  clear own3 r2
  have ccBG := BG_3.out.cell 0
  have llBG := BG_3.out.lt
  go_wp2_with fail
  refine namedC fun w3' HN => ?_
  have hbw3' : Below w3.heap.size w3 w3' := by rw [HN.out]; (repeat first | exact Below.refl _ _ | assumption | refine Below.drew ?_ | refine Below.alloc ?_ (by first | exact Nat.le_refl _ | (simp; done) | omega | (simp; omega)) _ | refine Below.setCell ?_ (by first | exact Nat.le_refl _ | (simp; done) | omega | (simp; omega)) _)
  have BS := Lib.hid (show Blk w3' w3.heap.size 24 #[.slice A3 T.length c3] by rw [HN.out]; exact Blk.new _ _ _)
  clear HN
  have bb4 := bb3.trans (hbw3'.mono bb3.size)
  have BG_4 := Lib.hid (BG_3.out.next hbw3')
  have OS_4 := Lib.hid (own_next OS.out hbw3')
  clear ccBG llBG
  refine (toGrammar_any A n c xs w3' hn' ((HX0.out.below bb4).more bb4.size)).mono ?_
  rintro e w4 ⟨A4, c4, rfl, own4, hb4⟩
  have bb5 := bb4.trans (hb4.mono bb4.size)
  have BG_5 := Lib.hid (BG_4.out.next hb4)
  have OS_5 := Lib.hid (own_next OS_4.out hb4)
  have BS_5 := Lib.hid (BS.out.next hb4)
  have OX := Lib.hid own4
  clear own4
  go_wp2_with fail
  refine namedC fun w4' HN => ?_
  have hbw4' : Below w4.heap.size w4 w4' := by rw [HN.out]; (repeat first | exact Below.refl _ _ | assumption | refine Below.drew ?_ | refine Below.alloc ?_ (by first | exact Nat.le_refl _ | (simp; done) | omega | (simp; omega)) _ | refine Below.setCell ?_ (by first | exact Nat.le_refl _ | (simp; done) | omega | (simp; omega)) _)
  have BX := Lib.hid (show Blk w4' w4.heap.size 24 #[.slice A4 xs.length c4] by rw [HN.out]; exact Blk.new _ _ _)
  clear HN
  have bb6 := bb5.trans (hbw4'.mono bb5.size)
  have BG_6 := Lib.hid (BG_5.out.next hbw4')
  have OS_6 := Lib.hid (own_next OS_5.out hbw4')
  have BS_6 := Lib.hid (BS_5.out.next hbw4')
  have OX_6 := Lib.hid (own_next OX.out hbw4')
  refine (IM.out A4 c4 w4' (Rd.of_own (fun x _ => fac_len x) rfl OX_6.out)).mono ?_
  rintro e w5 ⟨A5, c5, rfl, own5, hb5⟩
  have bb7 := bb6.trans (hb5.mono bb6.size)
  have BG_7 := Lib.hid (BG_6.out.next hb5)
  have OS_7 := Lib.hid (own_next OS_6.out hb5)
  have BS_7 := Lib.hid (BS_6.out.next hb5)
  have OX_7 := Lib.hid (own_next OX_6.out hb5)
  have BX_7 := Lib.hid (BX.out.next hb5)
  have OG := Lib.hid own5
  clear own5
  have ccBS := BS_7.out.cell 0
  have llBS := BS_7.out.lt
  go_wp2_with fail
  refine namedC fun w5' HN => ?_
  have hbw5' : Below w5.heap.size w5 w5' := by rw [HN.out]; (repeat first | exact Below.refl _ _ | assumption | refine Below.drew ?_ | refine Below.alloc ?_ (by first | exact Nat.le_refl _ | (simp; done) | omega | (simp; omega)) _ | refine Below.setCell ?_ (by first | exact Nat.le_refl _ | (simp; done) | omega | (simp; omega)) _)
  have BH := Lib.hid (show Blk w5' w5.heap.size 24 #[.slice A5 T.length c5] by rw [HN.out]; exact Blk.new _ _ _)
  clear HN
  have bb8 := bb7.trans (hbw5'.mono bb7.size)
  have BG_8 := Lib.hid (BG_7.out.next hbw5')
  have OS_8 := Lib.hid (own_next OS_7.out hbw5')
  have BS_8 := Lib.hid (BS_7.out.next hbw5')
  have OX_8 := Lib.hid (own_next OX_7.out hbw5')
  have BX_8 := Lib.hid (BX_7.out.next hbw5')
  have OG_8 := Lib.hid (own_next OG.out hbw5')
  clear ccBS llBS
  refine (eqGrammar_any A5 A3 _ c5 _ c3 T T w5' (by unfold maxLen; omega) (by unfold maxLen; omega) (Rd.of_own (fun x _ => fac_len x) rfl OG_8.out) (Rd.of_own (fun x _ => fac_len x) rfl OS_8.out) true (by simp)).mono ?_
  rintro e w5e ⟨rfl, hbw5e⟩
  have bb9 := bb8.trans (hbw5e.mono bb8.size)
  have BG_9 := Lib.hid (BG_8.out.next hbw5e)
  have OS_9 := Lib.hid (own_next OS_8.out hbw5e)
  have BS_9 := Lib.hid (BS_8.out.next hbw5e)
  have OX_9 := Lib.hid (own_next OX_8.out hbw5e)
  have BX_9 := Lib.hid (BX_8.out.next hbw5e)
  have OG_9 := Lib.hid (own_next OG_8.out hbw5e)
  have BH_9 := Lib.hid (BH.out.next hbw5e)
  have cg5 := BG_9.out.cell 0
  have lg5 := BG_9.out.lt
  have cx5 := BX_9.out.cell 0
  have lx5 := BX_9.out.lt
  go_wp2_with fail
  have hbw := Lib.hid (fun (w' : World) (h : Below w5e.heap.size w5e w') => show w'.cell? ⟨w4.heap.size, 0, none⟩ = some (.slice A4 xs.length c4) ∧ w'.cell? ⟨w.heap.size, 0, none⟩ = some (.slice A n c) from
    ⟨(BX_9.out.next h).cell 0, (BG_9.out.next h).cell 0⟩)
  have HXd := Lib.hid (show Rd w5e.drew w5e.drew.heap.size A n 3 Fac.cells xs from ((HX0.out.below bb9).more bb9.size))
  go_region_held3 (fun w' => w'.cell? ⟨w4.heap.size, 0, none⟩ = some (.slice A4 xs.length c4) ∧ w'.cell? ⟨w.heap.size, 0, none⟩ = some (.slice A n c))
    (first | exact hbw.out _ b57 | exact hbw.out _ b56 | go_keep)
    (first
      | (go_at_call 18
         refine (toGrammar_any A n c xs _ hn' HXd.out).mono ?_
         rintro e w6 ⟨A6, c6, rfl, own6, hb6⟩
         have b56 : Below w5e.heap.size w5e w6 := (Below.refl _ _).drew.trans hb6)
      | (go_at_call 9
         refine (eqGrammar_any A4 A6 _ _ _ _ xs xs w6 (by have := lx.out; unfold maxLen; omega) (by have := lx.out; unfold maxLen; omega) (Rd.of_own (fun x _ => fac_len x) rfl (own_next OX_9.out b56)) (Rd.of_own (fun x _ => fac_len x) rfl own6) true (by simp)).mono ?_
         rintro e w7 ⟨rfl, hb7⟩
         have b57 : Below w5e.heap.size w5e w7 := b56.trans (hb7.mono b56.size)))
  have B57 := Lib.hid b57
  have CX := Lib.hid cx5
  clear own6 cg5 lg5 cx5 lx5
  have bb10 := bb9.trans (B57.out.mono bb9.size)
  have BG_10 := Lib.hid (BG_9.out.next B57.out)
  have OS_10 := Lib.hid (own_next OS_9.out B57.out)
  have BS_10 := Lib.hid (BS_9.out.next B57.out)
  have OX_10 := Lib.hid (own_next OX_9.out B57.out)
  have BX_10 := Lib.hid (BX_9.out.next B57.out)
  have OG_10 := Lib.hid (own_next OG_9.out B57.out)
  have BH_10 := Lib.hid (BH_9.out.next B57.out)
  have ccBX := BX_10.out.cell 0
  have llBX := BX_10.out.lt
  go_wp2_with fail
  refine (markGrammar_any A4 _ c4 w3'.heap.size _ 1 w7 (by have := lx.out; omega) (by omega) OX_10.out).mono ?_
  rintro e w8 ⟨rfl, hg8⟩
  have bb11 := bb10.grown hg8 bb10.size (fun k hk => by have := (OX_10.out.lt k hk).1; have := hb0.size; have := bb4.size; omega)
  have BG_m := Lib.hid (BG_10.out.grown hg8 (own_blk_ne OX_10.out BG_10.out (by decide)))
  have BS_m := Lib.hid (BS_10.out.grown hg8 (own_blk_ne OX_10.out BS_10.out (by decide)))
  have BH_m := Lib.hid (BH_10.out.grown hg8 (own_blk_ne OX_10.out BH_10.out (by decide)))
  have OS_m := Lib.hid (own_apart OS_4.out OS_10.out OX_10.out hg8)
  have OG_m := Lib.hid (own_later OX_6.out OG_10.out hg8)
  clear ccBX llBX hg8
  have hk8 : ¬ ((1 + 3 * xs.length : Nat) : Int) < 0 := by omega
  generalize ((1 + 3 * xs.length : Nat) : Int) = k8 at *
  have ccBS := BS_m.out.cell 0
  have llBS := BS_m.out.lt
  have ccBH := BH_m.out.cell 0
  have llBH := BH_m.out.lt
  go_wp2_with fail
  refine (eqGrammar_any A5 A3 _ c5 _ c3 T T w8 (by unfold maxLen; omega) (by unfold maxLen; omega) (Rd.of_own (fun x _ => fac_len x) rfl OG_m.out) (Rd.of_own (fun x _ => fac_len x) rfl OS_m.out) true (by simp)).mono ?_
  rintro e w9 ⟨rfl, hbw9⟩
  have bb12 := bb11.trans (hbw9.mono bb11.size)
  have BG_12 := Lib.hid (BG_m.out.next hbw9)
  have BS_12 := Lib.hid (BS_m.out.next hbw9)
  have BH_12 := Lib.hid (BH_m.out.next hbw9)
  have OS_12 := Lib.hid (own_next OS_m.out hbw9)
  have OG_12 := Lib.hid (own_next OG_m.out hbw9)
  clear ccBS llBS ccBH llBH
  have ccBH := BH_12.out.cell 0
  have llBH := BH_12.out.lt
  go_wp2_with fail
  refine (markGrammarC_any A5 _ c5 w4'.heap.size T 1 w9 (by omega) (by omega) rfl OG_12.out).mono ?_
  rintro e w10 ⟨rfl, own10, hg10⟩
  have bb13 := bb12.grown hg10 bb12.size (fun k hk => by have := (OG_12.out.lt k hk).1; have := bb6.size; omega)
  have BG_n := Lib.hid (BG_12.out.grown hg10 (own_blk_ne OG_12.out BG_12.out (by decide)))
  have BS_n := Lib.hid (BS_12.out.grown hg10 (own_blk_ne OG_12.out BS_12.out (by decide)))
  have BH_n := Lib.hid (BH_12.out.grown hg10 (own_blk_ne OG_12.out BH_12.out (by decide)))
  have OS_n := Lib.hid (own_apart OS_6.out OS_12.out OG_12.out hg10)
  have RG := Lib.hid (Rd.of_own (fun x _ => fac_len x) (marksR_len _ _) own10)
  clear own10 hg10
  clear ccBH llBH
  have ccBH := BH_n.out.cell 0
  have llBH := BH_n.out.lt
  go_wp2_with fail
  refine (heldGrammar_any A5 _ c5 1 w10 (by omega) (by omega) RG.out).mono ?_
  rintro e w11 ⟨rfl, hbw11⟩
  have bb14 := bb13.trans (hbw11.mono bb13.size)
  have BG_14 := Lib.hid (BG_n.out.next hbw11)
  have BS_14 := Lib.hid (BS_n.out.next hbw11)
  have BH_14 := Lib.hid (BH_n.out.next hbw11)
  have OS_14 := Lib.hid (own_next OS_n.out hbw11)
  have RG_14 := Lib.hid (RG.out.next hbw11)
  clear ccBH llBH
  have ccBG := BG_14.out.cell 0
  have llBG := BG_14.out.lt
  go_wp2_with fail
  refine (toGrammar_any A n c xs w11 hn' ((HX0.out.below bb14).more bb14.size)).mono ?_
  rintro e w12 ⟨A12, c12, rfl, own12, hb12⟩
  have bb15 := bb14.trans (hb12.mono bb14.size)
  have BG_15 := Lib.hid (BG_14.out.next hb12)
  have BS_15 := Lib.hid (BS_14.out.next hb12)
  have BH_15 := Lib.hid (BH_14.out.next hb12)
  have OS_15 := Lib.hid (own_next OS_14.out hb12)
  have RG_15 := Lib.hid (RG_14.out.next hb12)
  have r12 := Lib.hid (Rd.of_own (fun x _ => fac_len x) rfl own12)
  clear own12
  clear ccBG llBG
  go_wp2_with fail
  refine (IM.out A12 c12 w12 r12.out).mono ?_
  rintro e w13 ⟨A13, c13, rfl, own13, hb13⟩
  have bb16 := bb15.trans (hb13.mono bb15.size)
  have BG_16 := Lib.hid (BG_15.out.next hb13)
  have BS_16 := Lib.hid (BS_15.out.next hb13)
  have BH_16 := Lib.hid (BH_15.out.next hb13)
  have OS_16 := Lib.hid (own_next OS_15.out hb13)
  have RG_16 := Lib.hid (RG_15.out.next hb13)
  have OH := Lib.hid own13
  clear own13 r12
  have ccBS := BS_16.out.cell 0
  have llBS := BS_16.out.lt
  go_wp2_with fail
  refine namedC fun w13' HN => ?_
  have hbw13' : Below w13.heap.size w13 w13' := by rw [HN.out]; (repeat first | exact Below.refl _ _ | assumption | refine Below.drew ?_ | refine Below.alloc ?_ (by first | exact Nat.le_refl _ | (simp; done) | omega | (simp; omega)) _ | refine Below.setCell ?_ (by first | exact Nat.le_refl _ | (simp; done) | omega | (simp; omega)) _)
  have BI := Lib.hid (show Blk w13' w13.heap.size 24 #[.slice A13 T.length c13] by rw [HN.out]; exact Blk.new _ _ _)
  clear HN
  have bb17 := bb16.trans (hbw13'.mono bb16.size)
  have BG_17 := Lib.hid (BG_16.out.next hbw13')
  have BS_17 := Lib.hid (BS_16.out.next hbw13')
  have BH_17 := Lib.hid (BH_16.out.next hbw13')
  have OS_17 := Lib.hid (own_next OS_16.out hbw13')
  have RG_17 := Lib.hid (RG_16.out.next hbw13')
  have OH_17 := Lib.hid (own_next OH.out hbw13')
  clear ccBS llBS
  refine (eqGrammar_any A13 A3 _ c13 _ c3 T T w13' (by unfold maxLen; omega) (by unfold maxLen; omega) (Rd.of_own (fun x _ => fac_len x) rfl OH_17.out) (Rd.of_own (fun x _ => fac_len x) rfl OS_17.out) true (by simp)).mono ?_
  rintro e w14 ⟨rfl, hbw14⟩
  have bb18 := bb17.trans (hbw14.mono bb17.size)
  have BG_18 := Lib.hid (BG_17.out.next hbw14)
  have BS_18 := Lib.hid (BS_17.out.next hbw14)
  have BH_18 := Lib.hid (BH_17.out.next hbw14)
  have OS_18 := Lib.hid (own_next OS_17.out hbw14)
  have RG_18 := Lib.hid (RG_17.out.next hbw14)
  have OH_18 := Lib.hid (own_next OH_17.out hbw14)
  have BI_18 := Lib.hid (BI.out.next hbw14)
  have ccBH := BH_18.out.cell 0
  have llBH := BH_18.out.lt
  go_wp2_with fail
  refine (heldGrammar_any A5 _ c5 1 w14 (by omega) (by omega) RG_18.out).mono ?_
  rintro e w15 ⟨rfl, hbw15⟩
  have bb19 := bb18.trans (hbw15.mono bb18.size)
  have BG_19 := Lib.hid (BG_18.out.next hbw15)
  have BS_19 := Lib.hid (BS_18.out.next hbw15)
  have BH_19 := Lib.hid (BH_18.out.next hbw15)
  have OS_19 := Lib.hid (own_next OS_18.out hbw15)
  have RG_19 := Lib.hid (RG_18.out.next hbw15)
  have OH_19 := Lib.hid (own_next OH_18.out hbw15)
  have BI_19 := Lib.hid (BI_18.out.next hbw15)
  clear ccBH llBH
  go_wp2_with fail
  go_ret
  exact ⟨rfl, bb19⟩

set_option maxRecDepth 100000 in
theorem fnExactLevelGrammar_contract (H : Type) (enc : TypeId × Value → H) (W : World) (base : Nat) (args : Array Value) (ds gs : List (DataW H)) (before : List MemPlace)
    (hval : ∀ (j : Nat) t v, Try.f6.params[j]? = some t → args[j]? = some v → Value.okWide Try.prog W .any base t v)
    (hW : DataW.Whole enc Try.prog Try.f6.params.toList Rows.fnExactLevelGrammarSpec.vars false W args.toList ds gs before) :
    Calls Try.prog 6 args W fun e W' => ∃ v, e = .returned v ∧ Rows.fnExactLevelGrammarSpec.post enc Try.prog Try.f6 false true false false W args v W' := by
  have hW' := hW
  obtain ⟨p, q, hA0, hV, rfl, hfz, hnd⟩ := hW
  have hA : DataW.TrodAll enc Try.prog W 0 (fun _ => true) true Try.f6.params.toList args.toList ds p := hA0
  rw [Try.params6] at hA hval
  obtain ⟨v0, vs0, d0, ds0, p0, q0, hargs, rfl, rfl, h0, r0⟩ := trodAll_cons hA
  obtain ⟨rfl, rfl, rfl⟩ := trodAll_nil r0
  obtain rfl : args = #[v0] := by cases args; simp_all
  obtain ⟨rfl, rfl⟩ := trodVars_none hV
  obtain ⟨A0, n0, c0, xs0, rfl, hn0, rd0, ok0⟩ := open_grammar Try.underlying32 (by kernel_rfl) (by kernel_rfl) Try.underlying30 Try.underlying99 (by kernel_rfl) (by kernel_rfl) Try.underlying9 Try.underlying2 Try.underlying2 (hval 0 32 v0 rfl rfl) h0
  clear hA0
  refine (walkLev A0 n0 c0 xs0 W hn0 rd0 ok0).mono fun e W' ⟨he, hb⟩ => ?_
  subst he
  exact ⟨_, rfl, law_post laidOut hW' rfl 4 Try.underlying4 (by kernel_rfl) (by rw [Try.params6]; intro t ht; simp at ht; first | (subst ht; exact ⟨by kernel_rfl, of_decide_eq_true (by kernel_rfl)⟩) | (rcases ht with rfl | rfl <;> exact ⟨by kernel_rfl, of_decide_eq_true (by kernel_rfl)⟩) | (rcases ht with rfl | rfl | rfl <;> exact ⟨by kernel_rfl, of_decide_eq_true (by kernel_rfl)⟩) | (rcases ht with rfl | rfl | rfl | rfl <;> exact ⟨by kernel_rfl, of_decide_eq_true (by kernel_rfl)⟩)) rfl hb⟩

set_option maxRecDepth 100000 in
theorem fnExactLevelGrammar_lifted (os : Os) (started : os.Started) (H : Type) (enc : TypeId × Value → H) :
    ReturnsInHanded {} Try.checked os 6 .any (Rows.fnExactLevelGrammarSpec.pre6 enc Try.prog Try.f6 Rows.fnExactLevelGrammarRow.domain false) (Rows.fnExactLevelGrammarSpec.post enc Try.prog Try.f6 false true false false) := by
  refine returnsInHanded_of_change (C := Try.checked) own started (by kernel_rfl) Try.func6
    (ChangeSpec.witness6 (enc := enc) (C := Try.checked) false ⟨#[], #[.agg #[.slice none 0 0]], []⟩ 8 (by kernel_rfl) (by kernel_rfl) (by kernel_rfl) (by kernel_rfl)) ?_
  intro W base args ds gs before hval0 hW hcnd _
  exact fnExactLevelGrammar_contract H enc W base args ds gs before hval0 hW

theorem fnExactLevelGrammar_holds : Rows.FnExactLevelGrammarSaid :=
  OpenClaim.holds_of_wide 6 Try.f6 rfl rfl rfl rfl rfl rfl rfl ⟨rfl, rfl, rfl, rfl, rfl⟩ rfl rfl rfl rfl rfl (by as_aux_lemma => kernel_rfl) Try.func6
    (joined_mk (by as_aux_lemma => kernel_rfl) laidOut mapsRowed' (by as_aux_lemma => kernel_rfl) (by as_aux_lemma => kernel_rfl) (by as_aux_lemma => kernel_rfl) (by as_aux_lemma => kernel_rfl) (by as_aux_lemma => kernel_rfl) (by as_aux_lemma => kernel_rfl) plainKeys' rfl heard' mayEnter' lifts' make' (by as_aux_lemma => kernel_rfl))
    (of_decide_eq_true (by kernel_rfl)) (by unfold Func.isWrapper; first | (rw [if_pos (by decide +kernel)]; kernel_rfl) | (rw [if_neg (by decide +kernel)]; exact ⟨rfl, rfl⟩))
    (fun os started H enc _ => fnExactLevelGrammar_lifted os started H enc)

end Go.Proofs.Ytikhjoianbndhaa
