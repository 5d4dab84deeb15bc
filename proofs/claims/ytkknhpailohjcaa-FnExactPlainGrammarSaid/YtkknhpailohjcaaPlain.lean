/-
  PlainGrammar on both sides.
-/
import Derived.Test.YtkknhpailohjcaaPlainS
import Derived.Test.YtkknhpailohjcaaOrLim
namespace Go.Proofs.Ytkknhpailohjcaa
open Go.RowKit

def plF (s : ByteArray) : List Fac := if okW s then limF (plainL s.data.toList) else []
def plC (s : ByteArray) : Int := if okW s then limC (plainL s.data.toList) else 1
theorem plF_len (s : ByteArray) : (plF s).length ≤ 1048576 := by
  unfold plF
  split
  · rename_i h
    have h1 := okW_size h
    have h2 := plainL_len s.data.toList
    rw [byte_len] at h2
    unfold limF
    split
    · omega
    · simp
  · simp
theorem pairsP_ok (w : List UInt8) : ∀ (cs : List UInt8) (b : Int) (n : Nat), ∀ f ∈ pairsP w cs b n, f.l.size ≤ maxLen
  | [], _, _, f, h => by simp [pairsP] at h
  | c :: cs, b, n, f, h => by
    simp only [pairsP, List.mem_cons] at h
    rcases h with rfl | h
    · show 0 ≤ maxLen; omega
    · exact pairsP_ok w cs _ _ f h
theorem plainL_ok (w : List UInt8) : ∀ f ∈ plainL w, f.l.size ≤ maxLen := by
  intro f hf
  unfold plainL at hf
  split at hf
  · simp at hf
  · rcases List.mem_append.1 hf with h | h
    · obtain ⟨c, _, rfl⟩ := List.mem_map.1 h
      show 1 ≤ maxLen; unfold maxLen; omega
    · exact pairsP_ok _ _ _ _ f h
theorem plainL_big {w : List UInt8} (h : 400 < w.length) (hl : w.all letB = true) : (gOk (plainL w)).isSome = false := by
  unfold gOk
  rw [if_pos]
  · rfl
  · unfold plainL
    split
    · simp at h
    · rename_i c cs
      rw [List.length_append, pairsP_len]
      have hc : letB c = true := by simp at hl; exact hl.1
      have : 0 < (lettersP (c :: cs)).length := by
        rw [List.length_pos_iff_exists_mem]
        exact ⟨ruleC c, List.mem_map.2 ⟨c, mem_ks (by simp) hc, rfl⟩⟩
      simp only [List.length_cons] at h; omega
set_option maxHeartbeats 1000000 in
set_option maxRecDepth 100000 in
theorem implPlain_any (s : ByteArray) (w : World) (hs : s.size ≤ 1048576) : Calls Try.prog 29 #[.string s] w (RetGC w (plF s) (plC s)) := by
  rcases ho : okW s with _ | _
  · have Ho := Lib.hid ho
    have hT := Lib.hid (show plF s = [] by unfold plF; rw [ho]; rfl)
    have hC := Lib.hid (show plC s = 1 by unfold plC; rw [ho]; rfl)
    rw [hT.out, hC.out]
    clear ho hT hC
    go_enter Try.func29, Try.ntmps29
    go_wp2_with fail
    refine (validWord_any s false _ (by unfold maxLen; omega) Ho.out).mono ?_
    rintro e w1 ⟨rfl, hb1⟩
    have B1 := (Blk.new w 31 #[.slice none 0 0]).next hb1
    have b1 : Below w.heap.size w w1 := ((Below.refl w.heap.size w).alloc (Nat.le_refl _) (.cells #[.slice none 0 0] 31)).trans (hb1.mono (by simp))
    have d1 := B1.cell 0
    have f1 := B1.frozen
    have l1 := B1.lt
    have B5 := B1.set_ 0 (.slice none 0 0)
    have x5 : (w1.setCell ⟨w.heap.size, 0, none⟩ (.slice none 0 0)).cell? ⟨w.heap.size, 0, none⟩ = some (.slice none 0 0) := by rw [B5.cell 0]; rfl
    have b5 := b1.setCell (p := ⟨w.heap.size, 0, none⟩) (Nat.le_refl _) (.slice none 0 0)
    clear B5 B1
    go_wp2_with fail
    refine bodyPost_ret (v := .tuple #[.agg #[.slice none 0 0], .int .i64 1]) (by simp [results, Try.results29, go_sem, x5]) rfl ⟨none, 0, rfl, World.ownsRow_nil _ _ _ _, b5⟩
  · have Ho := Lib.hid ho
    have hT0 := show plF s = limF (plainL s.data.toList) by unfold plF; rw [ho]; rfl
    have hC0 := show plC s = limC (plainL s.data.toList) by unfold plC; rw [ho]; rfl
    have hlen := Lib.hid (show (plainL s.data.toList).length ≤ 100000 by
      have h1 := okW_size ho
      have h2 := plainL_len s.data.toList
      rw [byte_len] at h2; omega)
    have hok := Lib.hid (plainL_ok s.data.toList)
    rcases hg : (gOk (plainL s.data.toList)).isSome with _ | _
    all_goals
      have Hg := Lib.hid hg
      have hT := hT0
      have hC := hC0
      unfold limF at hT
      unfold limC at hC
      rw [hg] at hT hC
      have HT := Lib.hid hT
      have HC := Lib.hid hC
      clear ho hg hT hC hT0 hC0
      go_enter Try.func29, Try.ntmps29
      go_wp2_with fail
      refine (validWord_any s true _ (by unfold maxLen; omega) Ho.out).mono ?_
      rintro e w1 ⟨rfl, hb1⟩
      have B1 := Lib.hid ((Blk.new w 31 #[.slice none 0 0]).next hb1)
      have b1 : Below w.heap.size w w1 := ((Below.refl w.heap.size w).alloc (Nat.le_refl _) (.cells #[.slice none 0 0] 31)).trans (hb1.mono (by simp))
      go_wp2_with fail
      refine (plain_any s w1 Ho.out).mono ?_
      rintro e w2 ⟨A2, c2, rfl, own2, hb2⟩
      have b2 := b1.trans (hb2.mono b1.size)
      have B2 := Lib.hid (B1.out.next hb2)
      have O2 := Lib.hid own2
      clear own2
      go_wp2_with fail
      first
        | (refine (orLimit_no A2 _ c2 (plainL s.data.toList) w2 (by have := hlen.out; omega) (Rd.of_own (fun x _ => fac_len x) rfl O2.out) hok.out Hg.out).mono ?_
           rintro e w3 ⟨rfl, hb3⟩
           have b3 := b2.trans (hb3.mono b2.size)
           have B3 := B2.out.next hb3
           have d3 := B3.cell 0
           have f3 := B3.frozen
           have l3 := B3.lt
           have B5 := B3.set_ 0 (.slice none 0 0)
           have x5 : (w3.setCell ⟨w.heap.size, 0, none⟩ (.slice none 0 0)).cell? ⟨w.heap.size, 0, none⟩ = some (.slice none 0 0) := by rw [B5.cell 0]; rfl
           have b5 := b3.setCell (p := ⟨w.heap.size, 0, none⟩) (Nat.le_refl _) (.slice none 0 0)
           clear B5 B3
           go_wp2_with fail
           refine bodyPost_ret (v := .tuple #[.agg #[.slice none 0 0], .int .i64 3]) (by simp [results, Try.results29, go_sem, x5]) rfl ⟨none, 0, by rw [HT.out, HC.out]; rfl, by rw [HT.out]; exact World.ownsRow_nil _ _ _ _, b5⟩)
        | (refine (orLimit_yes A2 _ c2 (plainL s.data.toList) w2 (by have := hlen.out; omega) (Rd.of_own (fun x _ => fac_len x) rfl O2.out) hok.out Hg.out).mono ?_
           rintro e w3 ⟨rfl, hb3⟩
           have b3 := b2.trans (hb3.mono b2.size)
           have B3 := Lib.hid (B2.out.next hb3)
           have O3 := Lib.hid (own_next O2.out hb3)
           have d3 := B3.out.cell 0
           have f3 := B3.out.frozen
           have l3 := B3.out.lt
           generalize plainL s.data.toList = T at *
           have B5 := B3.out.set_ 0 (.slice A2 T.length c2)
           have x5 : (w3.setCell ⟨w.heap.size, 0, none⟩ (.slice A2 T.length c2)).cell? ⟨w.heap.size, 0, none⟩ = some (.slice A2 T.length c2) := by rw [B5.cell 0]; rfl
           have b5 := b3.setCell (p := ⟨w.heap.size, 0, none⟩) (Nat.le_refl _) (.slice A2 T.length c2)
           have O5 := Lib.hid ((own_kept' O3.out B3.out (by decide) (.slice A2 T.length c2) (i := 0)).mono b1.size)
           clear B5
           go_wp2_with fail
           refine bodyPost_ret (v := .tuple #[.agg #[.slice A2 T.length c2], .int .i64 0]) (by simp [results, Try.results29, go_sem, x5]) rfl ⟨A2, c2, by rw [HT.out, HC.out]; rfl, by rw [HT.out]; exact O5.out, b5⟩)
set_option maxHeartbeats 1000000 in
set_option maxRecDepth 100000 in
theorem specPlain_any (s : ByteArray) (w : World) (hs : s.size ≤ 1048576) : Calls Try.prog 28 #[.string s] w (RetGC w (plF s) (plC s)) := by
  rcases ho : okW s with _ | _
  · have Ho := Lib.hid ho
    have hT := Lib.hid (show plF s = [] by unfold plF; rw [ho]; rfl)
    have hC := Lib.hid (show plC s = 1 by unfold plC; rw [ho]; rfl)
    rw [hT.out, hC.out]
    clear ho hT hC
    go_enter Try.func28, Try.ntmps28
    go_wp2_with fail
    refine (specOk_any s false _ (by unfold maxLen; omega) Ho.out).mono ?_
    rintro e w1 ⟨rfl, hb1⟩
    have B1 := (Blk.new w 31 #[.slice none 0 0]).next hb1
    have b1 : Below w.heap.size w w1 := ((Below.refl w.heap.size w).alloc (Nat.le_refl _) (.cells #[.slice none 0 0] 31)).trans (hb1.mono (by simp))
    have d1 := B1.cell 0
    have f1 := B1.frozen
    have l1 := B1.lt
    have B5 := B1.set_ 0 (.slice none 0 0)
    have x5 : (w1.setCell ⟨w.heap.size, 0, none⟩ (.slice none 0 0)).cell? ⟨w.heap.size, 0, none⟩ = some (.slice none 0 0) := by rw [B5.cell 0]; rfl
    have b5 := b1.setCell (p := ⟨w.heap.size, 0, none⟩) (Nat.le_refl _) (.slice none 0 0)
    clear B5 B1
    go_wp2_with fail
    refine bodyPost_ret (v := .tuple #[.agg #[.slice none 0 0], .int .i64 1]) (by simp [results, Try.results28, go_sem, x5]) rfl ⟨none, 0, rfl, World.ownsRow_nil _ _ _ _, b5⟩
  · have Ho := Lib.hid ho
    have hT0 := show plF s = limF (plainL s.data.toList) by unfold plF; rw [ho]; rfl
    have hC0 := show plC s = limC (plainL s.data.toList) by unfold plC; rw [ho]; rfl
    have hlen := Lib.hid (show (plainL s.data.toList).length ≤ 100000 by
      have h1 := okW_size ho
      have h2 := plainL_len s.data.toList
      rw [byte_len] at h2; omega)
    have hok := Lib.hid (plainL_ok s.data.toList)
    by_cases hbig : 400 < s.size
    · have hg : (gOk (plainL s.data.toList)).isSome = false := plainL_big (by rw [byte_len]; exact hbig) (by unfold okW at ho; simp only [Bool.and_eq_true] at ho; exact ho.2)
      have hT := hT0
      have hC := hC0
      unfold limF at hT
      unfold limC at hC
      rw [hg] at hT hC
      have HT := Lib.hid hT
      have HC := Lib.hid hC
      clear ho hg hT hC hT0 hC0
      go_enter Try.func28, Try.ntmps28
      go_wp2_with fail
      refine (specOk_any s true _ (by unfold maxLen; omega) Ho.out).mono ?_
      rintro e w1 ⟨rfl, hb1⟩
      have B1 := (Blk.new w 31 #[.slice none 0 0]).next hb1
      have b1 : Below w.heap.size w w1 := ((Below.refl w.heap.size w).alloc (Nat.le_refl _) (.cells #[.slice none 0 0] 31)).trans (hb1.mono (by simp))
      have d1 := B1.cell 0
      have f1 := B1.frozen
      have l1 := B1.lt
      have B5 := B1.set_ 0 (.slice none 0 0)
      have x5 : (w1.setCell ⟨w.heap.size, 0, none⟩ (.slice none 0 0)).cell? ⟨w.heap.size, 0, none⟩ = some (.slice none 0 0) := by rw [B5.cell 0]; rfl
      have b5 := b1.setCell (p := ⟨w.heap.size, 0, none⟩) (Nat.le_refl _) (.slice none 0 0)
      clear B5 B1
      go_wp2_with fail
      refine bodyPost_ret (v := .tuple #[.agg #[.slice none 0 0], .int .i64 3]) (by simp [results, Try.results28, go_sem, x5]) rfl ⟨none, 0, by rw [HT.out, HC.out]; rfl, by rw [HT.out]; exact World.ownsRow_nil _ _ _ _, b5⟩
    rcases hg : (gOk (plainL s.data.toList)).isSome with _ | _
    all_goals
      have Hg := Lib.hid hg
      have hT := hT0
      have hC := hC0
      unfold limF at hT
      unfold limC at hC
      rw [hg] at hT hC
      have HT := Lib.hid hT
      have HC := Lib.hid hC
      clear ho hg hT hC hT0 hC0
      go_enter Try.func28, Try.ntmps28
      go_wp2_with fail
      refine (specOk_any s true _ (by unfold maxLen; omega) Ho.out).mono ?_
      rintro e w1 ⟨rfl, hb1⟩
      have B1 := Lib.hid ((Blk.new w 31 #[.slice none 0 0]).next hb1)
      have b1 : Below w.heap.size w w1 := ((Below.refl w.heap.size w).alloc (Nat.le_refl _) (.cells #[.slice none 0 0] 31)).trans (hb1.mono (by simp))
      go_wp2_with fail
      refine (l02Plain_any s w1 Ho.out).mono ?_
      rintro e w2 ⟨A2, c2, rfl, own2, hb2⟩
      have b2 := b1.trans (hb2.mono b1.size)
      have B2 := Lib.hid (B1.out.next hb2)
      have O2 := Lib.hid own2
      clear own2
      go_wp2_with fail
      first
        | (refine (l02Told_no A2 _ c2 (plainL s.data.toList) w2 (by have := hlen.out; omega) (Rd.of_own (fun x _ => fac_len x) rfl O2.out) hok.out Hg.out).mono ?_
           rintro e w3 ⟨rfl, hb3⟩
           have b3 := b2.trans (hb3.mono b2.size)
           have B3 := B2.out.next hb3
           have d3 := B3.cell 0
           have f3 := B3.frozen
           have l3 := B3.lt
           have B5 := B3.set_ 0 (.slice none 0 0)
           have x5 : (w3.setCell ⟨w.heap.size, 0, none⟩ (.slice none 0 0)).cell? ⟨w.heap.size, 0, none⟩ = some (.slice none 0 0) := by rw [B5.cell 0]; rfl
           have b5 := b3.setCell (p := ⟨w.heap.size, 0, none⟩) (Nat.le_refl _) (.slice none 0 0)
           clear B5 B3
           go_wp2_with fail
           refine bodyPost_ret (v := .tuple #[.agg #[.slice none 0 0], .int .i64 3]) (by simp [results, Try.results28, go_sem, x5]) rfl ⟨none, 0, by rw [HT.out, HC.out]; rfl, by rw [HT.out]; exact World.ownsRow_nil _ _ _ _, b5⟩)
        | (refine (l02Told_yes A2 _ c2 (plainL s.data.toList) w2 (by have := hlen.out; omega) (Rd.of_own (fun x _ => fac_len x) rfl O2.out) hok.out Hg.out).mono ?_
           rintro e w3 ⟨rfl, hb3⟩
           have b3 := b2.trans (hb3.mono b2.size)
           have B3 := Lib.hid (B2.out.next hb3)
           have O3 := Lib.hid (own_next O2.out hb3)
           have d3 := B3.out.cell 0
           have f3 := B3.out.frozen
           have l3 := B3.out.lt
           generalize plainL s.data.toList = T at *
           have B5 := B3.out.set_ 0 (.slice A2 T.length c2)
           have x5 : (w3.setCell ⟨w.heap.size, 0, none⟩ (.slice A2 T.length c2)).cell? ⟨w.heap.size, 0, none⟩ = some (.slice A2 T.length c2) := by rw [B5.cell 0]; rfl
           have b5 := b3.setCell (p := ⟨w.heap.size, 0, none⟩) (Nat.le_refl _) (.slice A2 T.length c2)
           have O5 := Lib.hid ((own_kept' O3.out B3.out (by decide) (.slice A2 T.length c2) (i := 0)).mono b1.size)
           clear B5
           go_wp2_with fail
           refine bodyPost_ret (v := .tuple #[.agg #[.slice A2 T.length c2], .int .i64 0]) (by simp [results, Try.results28, go_sem, x5]) rfl ⟨A2, c2, by rw [HT.out, HC.out]; rfl, by rw [HT.out]; exact O5.out, b5⟩)
end Go.Proofs.Ytkknhpailohjcaa
