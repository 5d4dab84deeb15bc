/-
  The statement FnExactMapLetters: for all arguments the program's MapLetters answers as the reference's, in memory of its own each time, and its arguments stay as they are. No condition.
-/
import Derived.Test.YtkknhpailohjcaaMapL
import Derived.Test.YtkknhpailohjcaaMarkG
import Derived.Test.YtkknhpailohjcaaStrT
import Derived.Test.YtkknhpailohjcaaLaw
import Derived.Deep.RegionHeld3
namespace Go.Proofs.Ytkknhpailohjcaa
open Go.ChangeShapes Go.WideShapes Go.ChangeAt Go.RowKit

/-- what is made later lies apart from what is marked -/
theorem own_later {w1 w w' : World} {b1 e1 s1 n1 e2 s2 n2 : Nat} {v1 v2 : Value} {xs1 xs2 : List Value} (h0 : w1.ownsRow b1 e1 s1 v1 n1 xs1) (h2 : w.ownsRow w1.heap.size e2 s2 v2 n2 xs2) (hg : w.grownBy w' v1.ownBlock) : w'.ownsRow w1.heap.size e2 s2 v2 n2 xs2 := by
  refine h2.kept hg ?_
  cases hv : v2.ownBlock with
  | none => exact .inl rfl
  | some q => exact .inr fun e => by have h3 := (h0.lt q e.symm).2; have h4 := own_ge h2 q hv; omega

set_option maxHeartbeats 2000000 in
set_option maxRecDepth 100000 in
theorem walkMap (A : Option Addr) (n c : Nat) (xs : List Fac) (B : Option Addr) (m d : Nat) (ws : List ByteArray) (w : World) (hn : n ≤ maxLen) (hx : Rd w w.heap.size A n 3 Fac.cells xs) (ox : ∀ f ∈ xs, Fac.ok f) (hm : m ≤ maxLen) (hw : Rd w w.heap.size B m 1 strEM ws) (ow : ∀ s ∈ ws, s.size ≤ maxLen) :
    Calls Try.prog 8 #[.agg #[.slice A n c], .slice B m d] w (Ret (.bool true) w) := by
  have lx := Lib.hid hx.len
  have lw := Lib.hid hw.len
  have HX0 := Lib.hid hx
  have HW0 := Lib.hid hw
  have OW := Lib.hid ow; clear ow
  have hsz : ∀ f ∈ xs, f.l.size ≤ maxLen := fun f hf => (ox f hf).1
  have Hsz := Lib.hid hsz; clear hsz
  go_enter Try.func8, Try.ntmps8
  go_wp2_with fail
  refine namedC fun w0 H0 => ?_
  have B0 : Blk w0 w.heap.size 24 #[.slice A n c] := by rw [H0.out]; exact Blk.new _ _ _
  have hb0 : Below w.heap.size w w0 := by rw [H0.out]; (repeat first | exact Below.refl _ _ | assumption | refine Below.drew ?_ | refine Below.alloc ?_ (by first | exact Nat.le_refl _ | (simp; done) | omega | (simp; omega)) _ | refine Below.setCell ?_ (by first | exact Nat.le_refl _ | (simp; done) | omega | (simp; omega)) _)
  clear H0
  have BG := Lib.hid B0; clear B0
  have hg := Lib.hid (szGrammar_any A n c xs 1048576 w0 (by omega) (by omega) hn (hx.next hb0) Hsz.out)
  by_cases hz : szFacAll 1048576 xs < 0
  · have hg' := hg.out
    rw [if_pos hz] at hg'
    have Hg := Lib.hid hg'; clear hg' hg hz
    refine Hg.out.mono ?_
    rintro e w1 ⟨rfl, hb1⟩
    go_wp2_with fail
    go_ret
    exact ⟨rfl, hb0.trans (hb1.mono hb0.size)⟩
  have hg' := hg.out
  rw [if_neg hz] at hg'
  have Hg := Lib.hid hg'; clear hg' hg
  have le1 := szFacAll_le 1048576 xs (by omega)
  have len1 := szFacAll_len 1048576 xs (by omega)
  have hn' : n ≤ 1048576 := by have := lx.out; omega
  have hz0 : 0 ≤ szFacAll 1048576 xs := by omega
  clear hz
  generalize szFacAll 1048576 xs = z at *
  have HZ := Lib.hid (fun (W : World) (h : Below w.heap.size w W) => szStringS_any B m d ws z W hz0 (by omega) hm (HW0.out.next h) OW.out)
  by_cases hzz : szStrAll z ws < 0
  · generalize szStrAll z ws = zz at *
    clear hx hw
    refine Hg.out.mono ?_
    rintro e w1 ⟨rfl, hb1⟩
    have bb1 := hb0.trans (hb1.mono hb0.size)
    go_wp2_with fail
    refine (HZ.out _ bb1).mono ?_
    rintro e w1s ⟨rfl, hb1s⟩
    go_wp2_with fail
    go_ret
    exact ⟨rfl, bb1.trans (hb1s.mono bb1.size)⟩
  have hzz0 : 0 ≤ szStrAll z ws := by omega
  have Hle := Lib.hid (szStrAll_le hzz0)
  have hm' : m ≤ 1048576 := by have := Hle.out.2.1; have := lw.out; omega
  have HS := Lib.hid (fun s (hs : s ∈ ws) => show s.size ≤ 1048576 by have := Hle.out.2.2 s hs; omega)
  generalize szStrAll z ws = zz at *
  clear hzz
  have hln : (mapF xs ws).length ≤ 1048576 := mapF_len xs ws
  clear hx hw
  have SP := Lib.hid (fun (A2 : Option Addr) (c2 : Nat) (B2 : Option Addr) (d2 : Nat) (w2 : World) (r2 : Rd w2 w2.heap.size A2 xs.length 3 Fac.cells xs) (q2 : Rd w2 w2.heap.size B2 ws.length 1 strEM ws) => specMap_any A2 _ c2 xs B2 _ d2 ws w2 (by rw [lx.out]; exact hn') (by rw [lw.out]; exact hm') r2 q2 Hsz.out HS.out)
  have IM := Lib.hid (fun (A2 : Option Addr) (c2 : Nat) (B2 : Option Addr) (d2 : Nat) (w2 : World) (r2 : Rd w2 w2.heap.size A2 xs.length 3 Fac.cells xs) (q2 : Rd w2 w2.heap.size B2 ws.length 1 strEM ws) => implMap_any A2 _ c2 xs B2 _ d2 ws w2 (by rw [lx.out]; exact hn') (by rw [lw.out]; exact hm') r2 q2 Hsz.out HS.out)
  generalize mapF xs ws = T at *
  generalize mapC xs ws = C at *
  refine Hg.out.mono ?_
  rintro e w1 ⟨rfl, hb1⟩
  have bb1 := hb0.trans (hb1.mono hb0.size)
  have BG_1 := Lib.hid (BG.out.next hb1)
  have ccBG := BG_1.out.cell 0
  have llBG := BG_1.out.lt
  go_wp2_with fail
  clear ccBG llBG
  refine (HZ.out _ bb1).mono ?_
  rintro e w1s ⟨rfl, hb1s⟩
  have bb2 := bb1.trans (hb1s.mono bb1.size)
  have BG_2 := Lib.hid (BG_1.out.next hb1s)
  have ccBG := BG_2.out.cell 0
  have llBG := BG_2.out.lt
  go_wp2_with fail
  refine (toGrammar_any A n c xs w1s hn' ((HX0.out.below bb2).more bb2.size)).mono ?_
  rintro e w2 ⟨A2, c2, rfl, ownw2, hbw2⟩
  have bb3 := bb2.trans (hbw2.mono bb2.size)
  have BG_3 := Lib.hid (BG_2.out.next hbw2)
  have r2 := Lib.hid (Rd.of_own (fun x _ => fac_len x) rfl ownw2)
  clear ownw2
  clear ccBG llBG
  go_wp2_with fail
  refine (toStringS_any B m d ws w2 hm' ((HW0.out.below bb3).more bb3.size)).mono ?_
  rintro e w2s ⟨A2s, c2s, rfl, ownw2s, hbw2s⟩
  have bb4 := bb3.trans (hbw2s.mono bb3.size)
  have BG_4 := Lib.hid (BG_3.out.next hbw2s)
  have r2_4 := Lib.hid (r2.out.next hbw2s)
  have q2 := Lib.hid (Rd.of_own (enc := strEM) (fun x _ => rfl) rfl ownw2s)
  clear ownw2s
  go_wp2_with fail
  refine (SP.out A2 c2 A2s c2s w2s r2_4.out q2.out).mono ?_
  rintro e w3 ⟨A3, c3, rfl, own3, hb3⟩
  have bb5 := bb4.trans (hb3.mono bb4.size)
  have BG_5 := Lib.hid (BG_4.out.next hb3)
  have OS := Lib.hid own3
  clear own3 q2
  have ccBG := BG_5.out.cell 0
  have llBG := BG_5.out.lt
  go_wp2_with fail
  refine namedC fun w3' HN => ?_
  have hbw3' : Below w3.heap.size w3 w3' := by rw [HN.out]; (repeat first | exact Below.refl _ _ | assumption | refine Below.drew ?_ | refine Below.alloc ?_ (by first | exact Nat.le_refl _ | (simp; done) | omega | (simp; omega)) _ | refine Below.setCell ?_ (by first | exact Nat.le_refl _ | (simp; done) | omega | (simp; omega)) _)
  have BS := Lib.hid (show Blk w3' w3.heap.size 31 #[.slice A3 T.length c3] by rw [HN.out]; exact Blk.new _ _ _)
  clear HN
  have bb6 := bb5.trans (hbw3'.mono bb5.size)
  have BG_6 := Lib.hid (BG_5.out.next hbw3')
  have OS_6 := Lib.hid (own_next OS.out hbw3')
  clear ccBG llBG
  refine (toGrammar_any A n c xs w3' hn' ((HX0.out.below bb6).more bb6.size)).mono ?_
  rintro e w4 ⟨A4, c4, rfl, ownw4, hbw4⟩
  have bb7 := bb6.trans (hbw4.mono bb6.size)
  have BG_7 := Lib.hid (BG_6.out.next hbw4)
  have OS_7 := Lib.hid (own_next OS_6.out hbw4)
  have BS_7 := Lib.hid (BS.out.next hbw4)
  have OX := Lib.hid ownw4
  clear ownw4
  go_wp2_with fail
  refine namedC fun w4' HN => ?_
  have hbw4' : Below w4.heap.size w4 w4' := by rw [HN.out]; (repeat first | exact Below.refl _ _ | assumption | refine Below.drew ?_ | refine Below.alloc ?_ (by first | exact Nat.le_refl _ | (simp; done) | omega | (simp; omega)) _ | refine Below.setCell ?_ (by first | exact Nat.le_refl _ | (simp; done) | omega | (simp; omega)) _)
  have BX := Lib.hid (show Blk w4' w4.heap.size 31 #[.slice A4 xs.length c4] by rw [HN.out]; exact Blk.new _ _ _)
  clear HN
  have bb8 := bb7.trans (hbw4'.mono bb7.size)
  have BG_8 := Lib.hid (BG_7.out.next hbw4')
  have OS_8 := Lib.hid (own_next OS_7.out hbw4')
  have BS_8 := Lib.hid (BS_7.out.next hbw4')
  have OX_8 := Lib.hid (own_next OX.out hbw4')
  refine (toStringS_any B m d ws w4' hm' ((HW0.out.below bb8).more bb8.size)).mono ?_
  rintro e w4s ⟨A4s, c4s, rfl, ownw4s, hbw4s⟩
  have bb9 := bb8.trans (hbw4s.mono bb8.size)
  have BG_9 := Lib.hid (BG_8.out.next hbw4s)
  have OS_9 := Lib.hid (own_next OS_8.out hbw4s)
  have BS_9 := Lib.hid (BS_8.out.next hbw4s)
  have OX_9 := Lib.hid (own_next OX_8.out hbw4s)
  have BX_9 := Lib.hid (BX.out.next hbw4s)
  have OWS := Lib.hid ownw4s
  clear ownw4s
  have ccBX := BX_9.out.cell 0
  have llBX := BX_9.out.lt
  go_wp2_with fail
  refine (IM.out A4 c4 A4s c4s w4s (Rd.of_own (fun x _ => fac_len x) rfl OX_9.out) (Rd.of_own (enc := strEM) (fun x _ => rfl) rfl OWS.out)).mono ?_
  clear ccBX llBX
  rintro e w5 ⟨A5, c5, rfl, own5, hb5⟩
  have bb10 := bb9.trans (hb5.mono bb9.size)
  have BG_10 := Lib.hid (BG_9.out.next hb5)
  have OS_10 := Lib.hid (own_next OS_9.out hb5)
  have BS_10 := Lib.hid (BS_9.out.next hb5)
  have OX_10 := Lib.hid (own_next OX_9.out hb5)
  have BX_10 := Lib.hid (BX_9.out.next hb5)
  have OWS_10 := Lib.hid (own_next OWS.out hb5)
  have OG := Lib.hid own5
  clear own5
  have ccBS := BS_10.out.cell 0
  have llBS := BS_10.out.lt
  go_wp2_with fail
  refine namedC fun w5' HN => ?_
  have hbw5' : Below w5.heap.size w5 w5' := by rw [HN.out]; (repeat first | exact Below.refl _ _ | assumption | refine Below.drew ?_ | refine Below.alloc ?_ (by first | exact Nat.le_refl _ | (simp; done) | omega | (simp; omega)) _ | refine Below.setCell ?_ (by first | exact Nat.le_refl _ | (simp; done) | omega | (simp; omega)) _)
  have BH := Lib.hid (show Blk w5' w5.heap.size 31 #[.slice A5 T.length c5] by rw [HN.out]; exact Blk.new _ _ _)
  clear HN
  have bb11 := bb10.trans (hbw5'.mono bb10.size)
  have BG_11 := Lib.hid (BG_10.out.next hbw5')
  have OS_11 := Lib.hid (own_next OS_10.out hbw5')
  have BS_11 := Lib.hid (BS_10.out.next hbw5')
  have OX_11 := Lib.hid (own_next OX_10.out hbw5')
  have BX_11 := Lib.hid (BX_10.out.next hbw5')
  have OWS_11 := Lib.hid (own_next OWS_10.out hbw5')
  have OG_11 := Lib.hid (own_next OG.out hbw5')
  clear ccBS llBS
  refine (eqGrammar_any A5 A3 _ c5 _ c3 T T w5' (by unfold maxLen; omega) (by unfold maxLen; omega) (Rd.of_own (fun x _ => fac_len x) rfl OG_11.out) (Rd.of_own (fun x _ => fac_len x) rfl OS_11.out) true (by simp)).mono ?_
  rintro e w5e ⟨rfl, hbw5e⟩
  have bb12 := bb11.trans (hbw5e.mono bb11.size)
  have BG_12 := Lib.hid (BG_11.out.next hbw5e)
  have OS_12 := Lib.hid (own_next OS_11.out hbw5e)
  have BS_12 := Lib.hid (BS_11.out.next hbw5e)
  have OX_12 := Lib.hid (own_next OX_11.out hbw5e)
  have BX_12 := Lib.hid (BX_11.out.next hbw5e)
  have OWS_12 := Lib.hid (own_next OWS_11.out hbw5e)
  have OG_12 := Lib.hid (own_next OG_11.out hbw5e)
  have BH_12 := Lib.hid (BH.out.next hbw5e)
  have cg5 := BG_12.out.cell 0
  have lg5 := BG_12.out.lt
  have cx5 := BX_12.out.cell 0
  have lx5 := BX_12.out.lt
  go_wp2_with fail
  have hbw := Lib.hid (fun (w' : World) (h : Below w5e.heap.size w5e w') => show w'.cell? ⟨w4.heap.size, 0, none⟩ = some (.slice A4 xs.length c4) ∧ w'.cell? ⟨w.heap.size, 0, none⟩ = some (.slice A n c) from
    ⟨(BX_12.out.next h).cell 0, (BG_12.out.next h).cell 0⟩)
  have HXd := Lib.hid (show Rd w5e.drew w5e.drew.heap.size A n 3 Fac.cells xs from ((HX0.out.below bb12).more bb12.size))
  go_region_held3 (fun w' => w'.cell? ⟨w4.heap.size, 0, none⟩ = some (.slice A4 xs.length c4) ∧ w'.cell? ⟨w.heap.size, 0, none⟩ = some (.slice A n c))
    (first | exact hbw.out _ b57 | exact hbw.out _ b56 | go_keep)
    (first
      | (go_at_call 11
         refine (toGrammar_any A n c xs _ hn' HXd.out).mono ?_
         rintro e w6 ⟨A6, c6, rfl, own6, hb6⟩
         have b56 : Below w5e.heap.size w5e w6 := (Below.refl _ _).drew.trans hb6)
      | (go_at_call 14
         refine (eqGrammar_any A4 A6 _ _ _ _ xs xs w6 (by have := lx.out; unfold maxLen; omega) (by have := lx.out; unfold maxLen; omega) (Rd.of_own (fun x _ => fac_len x) rfl (own_next OX_12.out b56)) (Rd.of_own (fun x _ => fac_len x) rfl own6) true (by simp)).mono ?_
         rintro e w7 ⟨rfl, hb7⟩
         have b57 : Below w5e.heap.size w5e w7 := b56.trans (hb7.mono b56.size)))
  have B57 := Lib.hid b57
  clear own6 cg5 lg5 cx5 lx5
  have bb13 := bb12.trans (B57.out.mono bb12.size)
  have BG_13 := Lib.hid (BG_12.out.next B57.out)
  have OS_13 := Lib.hid (own_next OS_12.out B57.out)
  have BS_13 := Lib.hid (BS_12.out.next B57.out)
  have OX_13 := Lib.hid (own_next OX_12.out B57.out)
  have BX_13 := Lib.hid (BX_12.out.next B57.out)
  have OWS_13 := Lib.hid (own_next OWS_12.out B57.out)
  have OG_13 := Lib.hid (own_next OG_12.out B57.out)
  have BH_13 := Lib.hid (BH_12.out.next B57.out)
  go_wp2_with fail
  refine (toStringS_any B m d ws w7 hm' ((HW0.out.below bb13).more bb13.size)).mono ?_
  rintro e w7s ⟨A7s, c7s, rfl, ownw7s, hbw7s⟩
  have bb14 := bb13.trans (hbw7s.mono bb13.size)
  have BG_14 := Lib.hid (BG_13.out.next hbw7s)
  have OS_14 := Lib.hid (own_next OS_13.out hbw7s)
  have BS_14 := Lib.hid (BS_13.out.next hbw7s)
  have OX_14 := Lib.hid (own_next OX_13.out hbw7s)
  have BX_14 := Lib.hid (BX_13.out.next hbw7s)
  have OWS_14 := Lib.hid (own_next OWS_13.out hbw7s)
  have OG_14 := Lib.hid (own_next OG_13.out hbw7s)
  have BH_14 := Lib.hid (BH_13.out.next hbw7s)
  have q7 := Lib.hid (Rd.of_own (enc := strEM) (fun x _ => rfl) rfl ownw7s)
  clear ownw7s
  go_wp2_with fail
  refine (eqStringS_any A4s A7s _ c4s _ c7s ws ws w7s (by have := lw.out; unfold maxLen; omega) (by have := lw.out; unfold maxLen; omega) (Rd.of_own (enc := strEM) (fun x _ => rfl) rfl OWS_14.out) q7.out).mono ?_
  rw [show decide (ws = ws) = true by simp]
  rintro e w7e ⟨rfl, hbw7e⟩
  have bb15 := bb14.trans (hbw7e.mono bb14.size)
  have BG_15 := Lib.hid (BG_14.out.next hbw7e)
  have OS_15 := Lib.hid (own_next OS_14.out hbw7e)
  have BS_15 := Lib.hid (BS_14.out.next hbw7e)
  have OX_15 := Lib.hid (own_next OX_14.out hbw7e)
  have BX_15 := Lib.hid (BX_14.out.next hbw7e)
  have OWS_15 := Lib.hid (own_next OWS_14.out hbw7e)
  have OG_15 := Lib.hid (own_next OG_14.out hbw7e)
  have BH_15 := Lib.hid (BH_14.out.next hbw7e)
  have ccBX := BX_15.out.cell 0
  have llBX := BX_15.out.lt
  go_wp2_with fail
  refine (markGrammar_any A4 _ c4 w3'.heap.size _ 1 w7e (by have := lx.out; omega) (by omega) OX_15.out).mono ?_
  rintro e w8 ⟨rfl, hg8⟩
  have bb16 := bb15.grown hg8 bb15.size (fun k hk => by have := (OX_15.out.lt k hk).1; have := hb0.size; have := bb6.size; omega)
  have BG_m := Lib.hid (BG_15.out.grown hg8 (own_blk_ne OX_15.out BG_15.out (by decide)))
  have BS_m := Lib.hid (BS_15.out.grown hg8 (own_blk_ne OX_15.out BS_15.out (by decide)))
  have BH_m := Lib.hid (BH_15.out.grown hg8 (own_blk_ne OX_15.out BH_15.out (by decide)))
  have OS_m := Lib.hid (own_apart OS_6.out OS_15.out OX_15.out hg8)
  have OG_m := Lib.hid (own_later OX_9.out OG_15.out hg8)
  have OWS_m := Lib.hid (OWS_15.out.kept hg8 (own_ne OWS_15.out OX_15.out (by decide)))
  clear ccBX llBX hg8
  go_wp2_with fail
  refine (markStringSK_any A4s _ c4s w4'.heap.size _ (1 + 3 * xs.length) w8 (by have := lw.out; omega) (by have := lx.out; omega) OWS_m.out).mono ?_
  rintro e w8s ⟨rfl, _, hg8s⟩
  have bb17 := bb16.grown hg8s bb16.size (fun k hk => by have := (OWS_m.out.lt k hk).1; have := bb8.size; omega)
  have BG_s := Lib.hid (BG_m.out.grown hg8s (own_blk_ne OWS_m.out BG_m.out (by decide)))
  have BS_s := Lib.hid (BS_m.out.grown hg8s (own_blk_ne OWS_m.out BS_m.out (by decide)))
  have BH_s := Lib.hid (BH_m.out.grown hg8s (own_blk_ne OWS_m.out BH_m.out (by decide)))
  have OS_s := Lib.hid (OS_m.out.kept hg8s (own_ne OS_m.out OWS_m.out (by decide)))
  have OG_s := Lib.hid (OG_m.out.kept hg8s (own_ne OG_m.out OWS_m.out (by decide)))
  clear hg8s
  have hk8 : ¬ ((1 + 3 * xs.length + ws.length : Nat) : Int) < 0 := by omega
  generalize ((1 + 3 * xs.length + ws.length : Nat) : Int) = k8 at *
  have ccBS := BS_s.out.cell 0
  have llBS := BS_s.out.lt
  have ccBH := BH_s.out.cell 0
  have llBH := BH_s.out.lt
  go_wp2_with fail
  refine (eqGrammar_any A5 A3 _ c5 _ c3 T T w8s (by unfold maxLen; omega) (by unfold maxLen; omega) (Rd.of_own (fun x _ => fac_len x) rfl OG_s.out) (Rd.of_own (fun x _ => fac_len x) rfl OS_s.out) true (by simp)).mono ?_
  rintro e w9 ⟨rfl, hbw9⟩
  have bb18 := bb17.trans (hbw9.mono bb17.size)
  have BG_18 := Lib.hid (BG_s.out.next hbw9)
  have BS_18 := Lib.hid (BS_s.out.next hbw9)
  have BH_18 := Lib.hid (BH_s.out.next hbw9)
  have OS_18 := Lib.hid (own_next OS_s.out hbw9)
  have OG_18 := Lib.hid (own_next OG_s.out hbw9)
  clear ccBS llBS ccBH llBH
  have ccBH := BH_18.out.cell 0
  have llBH := BH_18.out.lt
  go_wp2_with fail
  refine (markGrammarC_any A5 _ c5 w4s.heap.size T 1 w9 (by omega) (by omega) rfl OG_18.out).mono ?_
  rintro e w10 ⟨rfl, own10, hg10⟩
  have bb19 := bb18.grown hg10 bb18.size (fun k hk => by have := (OG_18.out.lt k hk).1; have := bb9.size; omega)
  have BG_n := Lib.hid (BG_18.out.grown hg10 (own_blk_ne OG_18.out BG_18.out (by decide)))
  have BS_n := Lib.hid (BS_18.out.grown hg10 (own_blk_ne OG_18.out BS_18.out (by decide)))
  have BH_n := Lib.hid (BH_18.out.grown hg10 (own_blk_ne OG_18.out BH_18.out (by decide)))
  have OS_n := Lib.hid (own_apart OS_9.out OS_18.out OG_18.out hg10)
  have RG := Lib.hid (Rd.of_own (fun x _ => fac_len x) (marksR_len _ _) own10)
  clear own10 hg10
  clear ccBH llBH
  have ccBH := BH_n.out.cell 0
  have llBH := BH_n.out.lt
  go_wp2_with fail
  refine (heldGrammar_any A5 _ c5 1 w10 (by omega) (by omega) RG.out).mono ?_
  rintro e w11 ⟨rfl, hbw11⟩
  have bb20 := bb19.trans (hbw11.mono bb19.size)
  have BG_20 := Lib.hid (BG_n.out.next hbw11)
  have BS_20 := Lib.hid (BS_n.out.next hbw11)
  have BH_20 := Lib.hid (BH_n.out.next hbw11)
  have OS_20 := Lib.hid (own_next OS_n.out hbw11)
  have RG_20 := Lib.hid (RG.out.next hbw11)
  clear ccBH llBH
  have ccBG := BG_20.out.cell 0
  have llBG := BG_20.out.lt
  go_wp2_with fail
  refine (toGrammar_any A n c xs w11 hn' ((HX0.out.below bb20).more bb20.size)).mono ?_
  rintro e w12 ⟨A12, c12, rfl, ownw12, hbw12⟩
  have bb21 := bb20.trans (hbw12.mono bb20.size)
  have BG_21 := Lib.hid (BG_20.out.next hbw12)
  have BS_21 := Lib.hid (BS_20.out.next hbw12)
  have BH_21 := Lib.hid (BH_20.out.next hbw12)
  have OS_21 := Lib.hid (own_next OS_20.out hbw12)
  have RG_21 := Lib.hid (RG_20.out.next hbw12)
  have r12 := Lib.hid (Rd.of_own (fun x _ => fac_len x) rfl ownw12)
  clear ownw12
  clear ccBG llBG
  go_wp2_with fail
  refine (toStringS_any B m d ws w12 hm' ((HW0.out.below bb21).more bb21.size)).mono ?_
  rintro e w12s ⟨A12s, c12s, rfl, ownw12s, hbw12s⟩
  have bb22 := bb21.trans (hbw12s.mono bb21.size)
  have BG_22 := Lib.hid (BG_21.out.next hbw12s)
  have BS_22 := Lib.hid (BS_21.out.next hbw12s)
  have BH_22 := Lib.hid (BH_21.out.next hbw12s)
  have OS_22 := Lib.hid (own_next OS_21.out hbw12s)
  have RG_22 := Lib.hid (RG_21.out.next hbw12s)
  have r12_22 := Lib.hid (r12.out.next hbw12s)
  have q12 := Lib.hid (Rd.of_own (enc := strEM) (fun x _ => rfl) rfl ownw12s)
  clear ownw12s
  go_wp2_with fail
  refine (IM.out A12 c12 A12s c12s w12s r12_22.out q12.out).mono ?_
  rintro e w13 ⟨A13, c13, rfl, own13, hb13⟩
  have bb23 := bb22.trans (hb13.mono bb22.size)
  have BG_23 := Lib.hid (BG_22.out.next hb13)
  have BS_23 := Lib.hid (BS_22.out.next hb13)
  have BH_23 := Lib.hid (BH_22.out.next hb13)
  have OS_23 := Lib.hid (own_next OS_22.out hb13)
  have RG_23 := Lib.hid (RG_22.out.next hb13)
  have OH := Lib.hid own13
  clear own13 q12
  have ccBS := BS_23.out.cell 0
  have llBS := BS_23.out.lt
  go_wp2_with fail
  refine namedC fun w13' HN => ?_
  have hbw13' : Below w13.heap.size w13 w13' := by rw [HN.out]; (repeat first | exact Below.refl _ _ | assumption | refine Below.drew ?_ | refine Below.alloc ?_ (by first | exact Nat.le_refl _ | (simp; done) | omega | (simp; omega)) _ | refine Below.setCell ?_ (by first | exact Nat.le_refl _ | (simp; done) | omega | (simp; omega)) _)
  have BI := Lib.hid (show Blk w13' w13.heap.size 31 #[.slice A13 T.length c13] by rw [HN.out]; exact Blk.new _ _ _)
  clear HN
  have bb24 := bb23.trans (hbw13'.mono bb23.size)
  have BG_24 := Lib.hid (BG_23.out.next hbw13')
  have BS_24 := Lib.hid (BS_23.out.next hbw13')
  have BH_24 := Lib.hid (BH_23.out.next hbw13')
  have OS_24 := Lib.hid (own_next OS_23.out hbw13')
  have RG_24 := Lib.hid (RG_23.out.next hbw13')
  have OH_24 := Lib.hid (own_next OH.out hbw13')
  clear ccBS llBS
  refine (eqGrammar_any A13 A3 _ c13 _ c3 T T w13' (by unfold maxLen; omega) (by unfold maxLen; omega) (Rd.of_own (fun x _ => fac_len x) rfl OH_24.out) (Rd.of_own (fun x _ => fac_len x) rfl OS_24.out) true (by simp)).mono ?_
  rintro e w14 ⟨rfl, hbw14⟩
  have bb25 := bb24.trans (hbw14.mono bb24.size)
  have BG_25 := Lib.hid (BG_24.out.next hbw14)
  have BS_25 := Lib.hid (BS_24.out.next hbw14)
  have BH_25 := Lib.hid (BH_24.out.next hbw14)
  have OS_25 := Lib.hid (own_next OS_24.out hbw14)
  have RG_25 := Lib.hid (RG_24.out.next hbw14)
  have OH_25 := Lib.hid (own_next OH_24.out hbw14)
  have BI_25 := Lib.hid (BI.out.next hbw14)
  have ccBH := BH_25.out.cell 0
  have llBH := BH_25.out.lt
  go_wp2_with fail
  refine (heldGrammar_any A5 _ c5 1 w14 (by omega) (by omega) RG_25.out).mono ?_
  rintro e w15 ⟨rfl, hbw15⟩
  have bb26 := bb25.trans (hbw15.mono bb25.size)
  have BG_26 := Lib.hid (BG_25.out.next hbw15)
  have BS_26 := Lib.hid (BS_25.out.next hbw15)
  have BH_26 := Lib.hid (BH_25.out.next hbw15)
  have OS_26 := Lib.hid (own_next OS_25.out hbw15)
  have RG_26 := Lib.hid (RG_25.out.next hbw15)
  have OH_26 := Lib.hid (own_next OH_25.out hbw15)
  have BI_26 := Lib.hid (BI_25.out.next hbw15)
  clear ccBH llBH
  go_wp2_with fail
  go_ret
  exact ⟨rfl, bb26⟩

set_option maxRecDepth 100000 in
theorem fnExactMapLetters_contract (H : Type) (enc : TypeId × Value → H) (W : World) (base : Nat) (args : Array Value) (ds gs : List (DataW H)) (before : List MemPlace)
    (hval : ∀ (j : Nat) t v, Try.f8.params[j]? = some t → args[j]? = some v → Value.okWide Try.prog W .any base t v)
    (hW : DataW.Whole enc Try.prog Try.f8.params.toList Rows.fnExactMapLettersSpec.vars false W args.toList ds gs before) :
    Calls Try.prog 8 args W fun e W' => ∃ v, e = .returned v ∧ Rows.fnExactMapLettersSpec.post enc Try.prog Try.f8 false true false false W args v W' := by
  have hW' := hW
  obtain ⟨p, q, hA0, hV, rfl, hfz, hnd⟩ := hW
  have hA : DataW.TrodAll enc Try.prog W 0 (fun _ => true) true Try.f8.params.toList args.toList ds p := hA0
  rw [Try.params8] at hA hval
  obtain ⟨v0, vs0, d0, ds0, p0, q0, hargs, rfl, rfl, h0, r0⟩ := trodAll_cons hA
  obtain ⟨v1, vs1, d1, ds1, p1, q1, rfl, rfl, rfl, h1, r1⟩ := trodAll_cons r0
  obtain ⟨rfl, rfl, rfl⟩ := trodAll_nil r1
  obtain rfl : args = #[v0, v1] := by cases args; simp_all
  obtain ⟨rfl, rfl⟩ := trodVars_none hV
  obtain ⟨A0, n0, c0, xs0, rfl, hn0, rd0, ok0⟩ := open_grammar Try.underlying24 (by kernel_rfl) (by kernel_rfl) Try.underlying22 Try.underlying115 (by kernel_rfl) (by kernel_rfl) Try.underlying9 Try.underlying2 Try.underlying2 (hval 0 24 v0 rfl rfl) h0
  obtain ⟨A1, n1, c1, ss1, rfl, hn1, rd1, ok1⟩ := open_strs Try.underlying51 Try.underlying9 (by kernel_rfl) (hval 1 51 v1 rfl rfl) h1
  clear hA0
  refine (walkMap A0 n0 c0 xs0 A1 n1 c1 ss1 W hn0 rd0 ok0 hn1 rd1 ok1).mono fun e W' ⟨he, hb⟩ => ?_
  subst he
  exact ⟨_, rfl, law_post laidOut hW' rfl 4 Try.underlying4 (by kernel_rfl) (by rw [Try.params8]; intro t ht; simp at ht; first | (subst ht; exact ⟨by kernel_rfl, of_decide_eq_true (by kernel_rfl)⟩) | (rcases ht with rfl | rfl <;> exact ⟨by kernel_rfl, of_decide_eq_true (by kernel_rfl)⟩) | (rcases ht with rfl | rfl | rfl <;> exact ⟨by kernel_rfl, of_decide_eq_true (by kernel_rfl)⟩) | (rcases ht with rfl | rfl | rfl | rfl <;> exact ⟨by kernel_rfl, of_decide_eq_true (by kernel_rfl)⟩)) rfl hb⟩

set_option maxRecDepth 100000 in
theorem fnExactMapLetters_lifted (os : Os) (started : os.Started) (H : Type) (enc : TypeId × Value → H) :
    ReturnsInHanded {} Try.checked os 8 .any (Rows.fnExactMapLettersSpec.pre6 enc Try.prog Try.f8 Rows.fnExactMapLettersRow.domain false) (Rows.fnExactMapLettersSpec.post enc Try.prog Try.f8 false true false false) := by
  refine returnsInHanded_of_change (C := Try.checked) own started (by kernel_rfl) Try.func8
    (ChangeSpec.witness6 (enc := enc) (C := Try.checked) false ⟨#[], #[.agg #[.slice none 0 0], .slice none 0 0], []⟩ 8 (by kernel_rfl) (by kernel_rfl) (by kernel_rfl) (by kernel_rfl)) ?_
  intro W base args ds gs before hval0 hW hcnd _
  exact fnExactMapLetters_contract H enc W base args ds gs before hval0 hW

theorem fnExactMapLetters_holds : Rows.FnExactMapLettersSaid :=
  OpenClaim.holds_of_wide 8 Try.f8 rfl rfl rfl rfl rfl rfl rfl ⟨rfl, rfl, rfl, rfl, rfl⟩ rfl rfl rfl rfl rfl (by as_aux_lemma => kernel_rfl) Try.func8
    (joined_mk (by as_aux_lemma => kernel_rfl) laidOut mapsRowed' (by as_aux_lemma => kernel_rfl) (by as_aux_lemma => kernel_rfl) (by as_aux_lemma => kernel_rfl) (by as_aux_lemma => kernel_rfl) (by as_aux_lemma => kernel_rfl) (by as_aux_lemma => kernel_rfl) plainKeys' rfl heard' mayEnter' lifts' make' (by as_aux_lemma => kernel_rfl))
    (of_decide_eq_true (by kernel_rfl)) (by unfold Func.isWrapper; first | (rw [if_pos (by decide +kernel)]; kernel_rfl) | (rw [if_neg (by decide +kernel)]; exact ⟨rfl, rfl⟩))
    (fun os started H enc _ => fnExactMapLetters_lifted os started H enc)

end Go.Proofs.Ytkknhpailohjcaa
