/-
  Maps read from their text: the program's walk.
-/
import Derived.Test.YtceobhmbnkheiaaZRowFnMaps32
import Derived.Test.YtceobhmbnkheiaaZRowFnMaps30
import Derived.Test.YtceobhmbnkheiaaZRowFnMaps12
import Derived.Test.YtceobhmbnkheiaaZRowFnMaps1
set_option linter.unusedVariables false
set_option linter.unusedSimpArgs false
namespace Go.Proofs.Ytceobhmbnkheiaa
open Go.RowKit Go.Sort
def wAt (wt : Int) (j : Nat) : Int := if j = 0 then 0 else wt
theorem wAt_pos (wt : Int) {j : Nat} (h : 0 < j) : wAt wt j = wt := by unfold wAt; rw [if_neg (by omega)]
theorem headMl_size {n t : Int} (h1 : 0 ≤ n ∧ n ≤ 100) (h2 : 0 ≤ t ∧ t ≤ 100) : (headMl n t).size ≤ 1048576 := by
  have h5 := decIB_size (n := n) (by omega) (by omega)
  have h6 := decIB_size (n := t) (by omega) (by omega)
  have e : decsB [n, t] (mkB [32]) = decIB n ++ (mkB [32] ++ (decIB t ++ ⟨#[]⟩)) := by
    show joinB (mkB [32]) [decIB n, decIB t] = _
    rw [joinB_sep]; rfl
  unfold headMl
  rw [e]
  simp only [ByteArray.size_append]
  show 4 + (1 + (_ + (1 + (_ + 0)))) ≤ _
  omega
theorem lineMl_size {m : Int × List Int} (h1 : 0 ≤ m.1 ∧ m.1 < 100) (h2 : ∀ x ∈ m.2, 0 ≤ x ∧ x < 100) (h3 : m.2.length ≤ 100) : (lineMl m).size ≤ 1048576 := by
  have h4 := decIB_two h1.1 h1.2
  have h5 := decsB_small h2
  unfold lineMl
  simp only [ByteArray.size_append]
  show 3 + (1 + (_ + (1 + (1 + (1 + _))))) ≤ _
  have e : (decsB m.2 (mkB [32])).size = (decsB m.2 ⟨#[32]⟩).size := rfl
  omega

set_option maxRecDepth 100000 in
set_option maxHeartbeats 16000000 in
theorem ImplReadMaps_any {ms : List (Int × List Int)} (n T : Nat) (w : World) (hv : mapsOk n T ms) :
    Calls Try.prog 19 #[.string (mapsTx n T ms)] w fun e w' => ∃ r, e = .returned (.tuple #[.agg #[.int .i64 n, .int .i64 T, r], .int .i64 0]) ∧ OwnM w' w.heap.size r ms ∧ Below w.heap.size w w' := by
  obtain ⟨⟨hn1, hn6⟩, ⟨ht1, ht60⟩, ⟨hl1, hl60⟩, hrow, _⟩ := id hv
  have HV := Lib.hid hv
  have HROW := Lib.hid hrow
  have hsz := mapsTx_size hv
  have HLM := Lib.hid (show ∀ m ∈ ms, (0 ≤ m.1 ∧ m.1 < 100) ∧ (∀ x ∈ m.2, 0 ≤ x ∧ x < 100) ∧ m.2.length ≤ 6 ∧ 1 ≤ m.2.length from fun m hm => by
    have hr := hrow m hm
    obtain ⟨i, hi, rfl⟩ := List.mem_iff_getElem.1 hm
    have := hv.wt hi
    exact ⟨by omega, fun x hx => by have := hr.2.2 x hx; omega, by have := hr.2.1; omega, by have := hr.2.1; omega⟩)
  obtain ⟨L, hL⟩ : ∃ L, L = headMl n T :: ms.map lineMl := ⟨_, rfl⟩
  have HL := Lib.hid hL
  have HLI := Lib.hid (show linesI (mapsTx n T ms) = (L, true) from by
    rw [mapsTx_txt, hL]
    refine linesI_txt (fun x hx => ?_) (by simp)
    rw [List.mem_cons, List.mem_map] at hx
    rcases hx with rfl | ⟨m, hm, rfl⟩
    · exact headMl_no (by omega) (by omega)
    · exact lineMl_no (HLM.out m hm).1.1 (fun x hx => ((HLM.out m hm).2.1 x hx).1))
  have HM := Lib.hid (show L.length = ms.length + 1 from by rw [hL]; simp)
  have h0L : 0 < L.length := by rw [HM.out]; omega
  have HL0 := Lib.hid (show L[0]'h0L = headMl n T from by subst hL; rfl)
  have HLK := Lib.hid (show ∀ k (h : k < ms.length) (h2 : k + 1 < L.length), L[k + 1]'h2 = lineMl ms[k] from by subst hL; intro k h h2; simp)
  have HBB := Lib.hid (behind_headMl (n := (n : Int)) (t := (T : Int)) (by omega) (by omega))
  have hhs := headMl_size (n := (n : Int)) (t := (T : Int)) (by omega) (by omega)
  have HTX := Lib.hid (rfl : mapsTx n T ms = mapsTx n T ms)
  obtain ⟨s, hs⟩ : ∃ s, s = mapsTx n T ms := ⟨_, rfl⟩
  rw [← hs] at hsz HLI ⊢
  have HS := Lib.hid hs.symm
  obtain ⟨W1, hW1⟩ : ∃ W1, W1 = w.alloc (.cells #[.int .i64 0, .int .i64 0, .slice none 0 0] 26) := ⟨_, rfl⟩
  have z1 : W1.heap.size = w.heap.size + 1 := by rw [hW1]; simp
  have b1 : Below w.heap.size w W1 := by rw [hW1]; exact (Below.refl _ _).alloc (Nat.le_refl _) _
  have R := Lib.hid (show Box3 W1 w.heap.size 0 0 (.slice none 0 0) by rw [hW1]; exact Box3.newM w 0 0 _)
  have B1 := Lib.hid b1
  have HW1 := Lib.hid hW1.symm
  have Z1 := Lib.hid z1
  have i1 : ¬ (8000 : Int) < (s.size : Int) := by omega
  generalize hH : headMl (n : Int) (T : Int) = hd at hhs HBB HL0
  clear hv hrow hL hs hW1 b1 z1 hH HTX
  go_enter Try.func19, Try.ntmps19
  go_wp2_with fail
  rw [HW1.out]
  refine (linesIn_any s _ (by omega)).mono ?_
  rintro e w2 ⟨v2, rfl, o2, b2⟩
  rw [HLI.out] at o2 ⊢
  unfold tupVB
  have o2 : FStr.Own _ _ _ L := o2
  rcases o2.forms with ⟨rfl, h0⟩ | ⟨g, c, rfl, hg, hg1, hgc, hgc2⟩
  · have := HM.out; rw [h0] at this; simp at this
  unfold maxLen at hgc2
  have HSL := Lib.hid (fun W (h : Below w2.heap.size w2 W) => o2.sl.below h)
  obtain ⟨b, off, hadr, _, gc⟩ := FS_get o2.sl h0L
  simp at hadr
  obtain ⟨rfl, rfl⟩ := hadr
  rw [HL0.out] at gc
  simp only [Nat.add_zero] at gc
  obtain ⟨M, hM⟩ : ∃ M, M = ms.length := ⟨_, rfl⟩
  have HMM := Lib.hid hM
  have hmc := HM.out
  rw [← hM] at hmc hl1 hl60
  rw [hmc] at hgc HSL ⊢
  have B2 := Lib.hid (B1.out.trans (b2.mono B1.out.size))
  have R2 := Lib.hid (R.out.fs (S := fun _ => False) (Fs.of_below b2) (fun h => h))
  have Z2 := Lib.hid (show w.heap.size + 1 ≤ w2.heap.size by have := b2.size; have := Z1.out; omega)
  have e1 : (((M + 1 : Nat) : Int) == 0) = false := by rw [beq_eq_false_iff_ne]; omega
  have e1' : ((M : Int) + 1 == 0) = false := by rw [beq_eq_false_iff_ne]; omega
  have e2 : (0 : Int) < ((M + 1 : Nat) : Int) := by omega
  clear o2 hmc b2 hM i1
  go_wp2_with fail
  refine (numbersBehind_any hd mapsB _ hhs).mono ?_
  rintro e w3 ⟨v3, rfl, o3, b3⟩
  rw [HBB.out] at o3 ⊢
  unfold tupVB
  have o3 : OwnI _ _ _ [(n : Int), (T : Int)] := o3
  have B3 := Lib.hid (B2.out.trans (b3.mono B2.out.size))
  have R3 := Lib.hid (R2.out.fs (S := fun _ => False) (Fs.of_below b3) (fun h => h))
  have Z3 := Lib.hid (show w.heap.size + 1 ≤ w3.heap.size by have := b3.size; have := Z2.out; omega)
  have HSL3 := Lib.hid (fun W (h : Below w3.heap.size w3 W) => HSL.out W (b3.trans (h.mono b3.size)))
  obtain ⟨na, nc, rfl, nl1, nl2, _⟩ := id o3.sl
  unfold maxLen at nl2
  obtain ⟨nb, noff, rfl, _, g0⟩ := o3.sl.at_ (k := 0) (by simp)
  obtain ⟨_, _, he, _, g1⟩ := o3.sl.at_ (k := 1) (by simp)
  simp only [Option.some.injEq, Addr.mk.injEq, and_true] at he
  obtain ⟨rfl, rfl⟩ := he
  simp only [Nat.add_zero, List.getElem_cons_zero, List.getElem_cons_succ, List.length_cons, List.length_nil, Nat.zero_add, Nat.reduceAdd] at g0 g1 nl1 ⊢
  clear gc o3 b3
  go_wp2_with fail
  refine wpX_start (fun W => W.cell? ⟨nb, noff, none⟩ = some (.int .i64 n) ∧ W.cell? ⟨nb, noff + 1, none⟩ = some (.int .i64 T)) [8] (by kernel_rfl) ?_
  have bd : Below w3.heap.size w3 w3.drew := (Below.refl _ _).drew
  have CC := Lib.hid (fun V (h : Below w3.heap.size w3 V) => show (fun W : World => W.cell? ⟨nb, noff, none⟩ = some (.int .i64 n) ∧ W.cell? ⟨nb, noff + 1, none⟩ = some (.int .i64 T)) V from ⟨(h.cell (p := ⟨nb, noff, none⟩) (cell_lt g0)).trans g0, (h.cell (p := ⟨nb, noff + 1, none⟩) (cell_lt g1)).trans g1⟩)
  have hC := CC.out _ bd
  clear g0 g1
  refine wpX_free (i := 0) (v := ?_) rfl (by kernel_rfl) (fun _ _ _ h => h) rfl (fun w' => ?_) ?_
  rotate_left
  · go_simp; try with_reducible rfl
  try simp only [Act.put, List.getElem_toArray, List.getElem_cons_zero, List.getElem_cons_succ, List.setIfInBounds_toArray, List.set_cons_zero, List.set_cons_succ]
  refine wpX_free (i := 1) (v := ?_) rfl (by kernel_rfl) (fun _ _ _ h => h) rfl (fun w' => ?_) ?_
  rotate_left
  · go_simp; try with_reducible rfl
  try simp only [Act.put, List.getElem_toArray, List.getElem_cons_zero, List.getElem_cons_succ, List.setIfInBounds_toArray, List.set_cons_zero, List.set_cons_succ]
  refine wpX_load (i := 2) (v := ?_) rfl (by kernel_rfl) (fun _ _ _ h => h) hC rfl (fun w' hw' => ?_) ?_
  rotate_left
  · obtain ⟨k1, k2⟩ := hw'; go_simp; try with_reducible rfl
  try simp only [Act.put, List.getElem_toArray, List.getElem_cons_zero, List.getElem_cons_succ, List.setIfInBounds_toArray, List.set_cons_zero, List.set_cons_succ]
  refine wpX_free (i := 3) (v := ?_) rfl (by kernel_rfl) (fun _ _ _ h => h) rfl (fun w' => ?_) ?_
  rotate_left
  · go_simp; try with_reducible rfl
  try simp only [Act.put, List.getElem_toArray, List.getElem_cons_zero, List.getElem_cons_succ, List.setIfInBounds_toArray, List.set_cons_zero, List.set_cons_succ]
  refine wpX_free (i := 4) (v := ?_) rfl (by kernel_rfl) (fun _ _ _ h => h) rfl (fun w' => ?_) ?_
  rotate_left
  · go_simp; try with_reducible rfl
  try simp only [Act.put, List.getElem_toArray, List.getElem_cons_zero, List.getElem_cons_succ, List.setIfInBounds_toArray, List.set_cons_zero, List.set_cons_succ]
  refine wpX_load (i := 5) (v := ?_) rfl (by kernel_rfl) (fun _ _ _ h => h) hC rfl (fun w' hw' => ?_) ?_
  rotate_left
  · obtain ⟨k1, k2⟩ := hw'; go_simp; try with_reducible rfl
  try simp only [Act.put, List.getElem_toArray, List.getElem_cons_zero, List.getElem_cons_succ, List.setIfInBounds_toArray, List.set_cons_zero, List.set_cons_succ]
  refine wpX_free (i := 6) (v := ?_) rfl (by kernel_rfl) (fun _ _ _ h => h) rfl (fun w' => ?_) ?_
  rotate_left
  · go_simp; try with_reducible rfl
  try simp only [Act.put, List.getElem_toArray, List.getElem_cons_zero, List.getElem_cons_succ, List.setIfInBounds_toArray, List.set_cons_zero, List.set_cons_succ]
  refine wpX_one (i := 7) rfl (by kernel_rfl) rfl ?_
  intro K2 hK2
  go_simp
  refine hK2 _ _ (CC.out _ (bd.alloc (Nat.le_refl _) _)) ?_
  clear hK2 K2
  try simp only [Act.put, List.getElem_toArray, List.getElem_cons_zero, List.getElem_cons_succ, List.setIfInBounds_toArray, List.set_cons_zero, List.set_cons_succ]
  refine wpX_rest (t := [8]) (l := [_]) rfl (by kernel_rfl) (by kernel_rfl) ?_
  try simp only [List.getElem_toArray, List.getElem_cons_zero, List.getElem_cons_succ]
  change wpList _ _ _ _ _ (w3.drew.alloc (.cells #[.int .i64 0, .int .i64 0, .slice none 0 0] 26))
  generalize hwd : w3.drew = wq at bd ⊢
  have hsz : wq.heap.size = w3.heap.size := by rw [← hwd]; rfl
  rw [← hsz]
  obtain ⟨W4, hW4⟩ : ∃ W4, W4 = wq.alloc (.cells #[.int .i64 n, .int .i64 T, .slice none 0 0] 26) := ⟨_, rfl⟩
  have b4 : Below wq.heap.size wq W4 := by rw [hW4]; exact (Below.refl _ _).alloc (Nat.le_refl _) _
  have bq4 : Below w3.heap.size w3 W4 := bd.trans (b4.mono bd.size)
  have X4 := Lib.hid (show Box3 W4 wq.heap.size n T (.slice none 0 0) by rw [hW4]; exact Box3.newM wq n T _)
  have B4 := Lib.hid (B3.out.trans (bq4.mono B3.out.size))
  have R4 := Lib.hid (R3.out.fs (S := fun _ => False) (Fs.of_below bq4) (fun h => h))
  have Z4 := Lib.hid (show W4.heap.size = wq.heap.size + 1 by rw [hW4]; simp)
  have ZQ := Lib.hid (show w.heap.size + 1 ≤ wq.heap.size by have := Z3.out; omega)
  have HSQ := Lib.hid (fun W (h : Below wq.heap.size W4 W) => HSL3.out W (bq4.trans (h.mono bd.size)))
  have HW4 := Lib.hid hW4.symm
  have B0 := Lib.hid (Below.refl wq.heap.size W4)
  have hc1 : ¬ c = 1 := by omega
  clear hC b4 bq4 hW4 hwd bd hsz e1 e1' e2
  go_wp2
  rw [HW4.out]
  go_loopw [58] (fun kv wr => ∃ (k : Nat) (v : Value), k ≤ M ∧ kv = .int .i64 k ∧ Box3 wr wq.heap.size n T v ∧ OwnM wr (wq.heap.size + 1) v (ms.take k) ∧ Below wq.heap.size W4 wr) (fun kv _ => M - (intOf kv).toNat)
  case atStart => exact ⟨0, _, Nat.zero_le _, rfl, X4.out, OwnM.nil _ _, B0.out⟩
  case round =>
    clear B0
    obtain ⟨k, v, hk, rfl, hbox, hown, hbw⟩ := hrel
    have HBX := Lib.hid hbox
    have HO := Lib.hid hown
    have HBW := Lib.hid hbw
    have HBw := Lib.hid (B4.out.trans (hbw.mono (by have := ZQ.out; omega)))
    have hzr : wq.heap.size + 1 ≤ wr.heap.size := by have := hbw.size; have := Z4.out; omega
    have k0 : (0 : Int) ≤ (k : Int) := by omega
    obtain ⟨wo, rfl⟩ : ∃ wo : World, wo = wr := ⟨_, rfl⟩
    clear hown hbox
    by_cases hkm : k < M
    · have k1 : (k : Int) < (M : Int) := by omega
      have hkms : k < ms.length := by rw [← HMM.out]; exact hkm
      obtain ⟨gb, goff, hadr, _, gc⟩ := FS_get (HSQ.out _ hbw) (i := k + 1) (by have := HM.out; omega)
      simp at hadr
      obtain ⟨rfl, rfl⟩ := hadr
      rw [show 0 + (k + 1) = 1 + k by omega, HLK.out k hkms] at gc
      obtain ⟨hw1, hx1, hx2, hx3⟩ := HLM.out _ (List.getElem_mem hkms)
      have HTK := Lib.hid (List.take_succ_eq_append_getElem hkms)
      have hys := lineMl_size hw1 hx1 (by omega)
      have hcut := cuts_lineMl hw1.1 (fun x hx => (hx1 x hx).1) (by intro e; rw [e] at hx3; simp at hx3)
      generalize ms[k] = m at gc hw1 hx1 hx2 hx3 HTK hys hcut
      obtain ⟨wt, tl⟩ := m
      simp only at hw1 hx1 hx2 hx3 hcut
      generalize lineMl (wt, tl) = y at gc hys hcut
      obtain ⟨WS, hWS⟩ : ∃ WS, WS = cuts y 32 := ⟨_, rfl⟩
      obtain ⟨N, hN⟩ : ∃ N, N = tl.length + 2 := ⟨_, rfl⟩
      have HN := Lib.hid hN
      have hwl : WS.length = N + 1 := by rw [hWS, hcut, hN]; simp
      have HWL := Lib.hid hwl
      have HW0 := Lib.hid (show WS.getD 0 ⟨#[]⟩ = ⟨#[109, 97, 112]⟩ from by rw [hWS, hcut]; rfl)
      have HW1' := Lib.hid (show WS.getD 1 ⟨#[]⟩ = decIB wt from by rw [hWS, hcut]; rfl)
      have HW2 := Lib.hid (show WS.getD 2 ⟨#[]⟩ = ⟨#[58]⟩ from by rw [hWS, hcut]; rfl)
      have HW3 := Lib.hid (show ∀ j (h : j < tl.length), WS.getD (j + 3) ⟨#[]⟩ = decIB tl[j] from fun j h => by rw [hWS, hcut]; simp [h])
      have HSP := Lib.hid (fun W => by have h := splitAt_any y 32 W hys; rw [← hWS] at h; exact h)
      have hml : (ms.take k).length < 16777216 := by rw [List.length_take]; omega
      clear hcut hWS hys hN hbw
      go_wp2_with fail
      refine (HSP.out _).mono ?_
      rintro e w5 ⟨v5, rfl, o5, b5⟩
      rcases o5.forms with ⟨rfl, h0⟩ | ⟨wg, wc, rfl, hwg, hwg1, hwc, hwc2⟩
      · have := HWL.out; rw [h0] at this; simp at this
      unfold maxLen at hwc2
      have GW := Lib.hid (fun W (h : Below w5.heap.size w5 W) (i : Nat) (hi : i < N + 1) => show W.cell? ⟨wg, i, none⟩ = some (.string (WS.getD i ⟨#[]⟩)) from by
        have hi' : i < WS.length := by rw [HWL.out]; exact hi
        obtain ⟨b1, o1, hh, _, hc⟩ := FS_get (o5.sl.below h) hi'
        simp at hh
        obtain ⟨rfl, rfl⟩ := hh
        rw [Nat.zero_add] at hc
        rw [hc, List.getD_eq_getElem?_getD, List.getElem?_eq_getElem hi']; rfl)
      have B5 := Lib.hid (HBW.out.trans (b5.mono (by omega)))
      have HO5 := Lib.hid (HO.out.below b5)
      have BX5 := Lib.hid (HBX.out.fs (S := fun _ => False) (Fs.of_below b5) (fun h => h))
      have hz5 : wq.heap.size + 1 ≤ w5.heap.size := Nat.le_trans hzr b5.size
      rw [hwl] at hwc ⊢
      have hN2 : 3 ≤ N := by have := HN.out; omega
      have hN8 : N ≤ 8 := by have := HN.out; omega
      have n1 : ¬ ((N + 1 : Nat) : Int) < 4 := by omega
      have n1' : ¬ (N : Int) + 1 < 4 := by omega
      have n2 : (0 : Int) < ((N + 1 : Nat) : Int) := by omega
      have n3 : (2 : Int) < ((N + 1 : Nat) : Int) := by omega
      have hwc1 : ¬ wc = 1 := by omega
      have c0 := GW.out _ (Below.refl _ _) 0 (by omega)
      have c2 := GW.out _ (Below.refl _ _) 2 (by omega)
      rw [HW0.out] at c0
      rw [HW2.out] at c2
      obtain ⟨wx, hwx⟩ : ∃ wx, wx = w5.alloc (.cells #[.int .i64 0, .slice none 0 0] 43) := ⟨_, rfl⟩
      have bX : Below w5.heap.size w5 wx := by rw [hwx]; exact (Below.refl _ _).alloc (Nat.le_refl _) _
      have CX := Lib.hid (show Box2 wx w5.heap.size (wAt wt 0) (.slice none 0 0) by rw [hwx]; exact Box2.new _ _ _)
      have HWX := Lib.hid hwx.symm
      have BXX := Lib.hid bX
      have hzx : w5.heap.size + 1 ≤ wx.heap.size := by rw [hwx]; simp
      clear gc o5 b5 hwl bX hwx
      go_upto_region 17 with (fail)
      rw [HWX.out]
      go_wp2
      clear c0 c2 n1 n1' n2 n3
      go_loopw [84] (fun jv wj => ∃ (j : Nat) (z : Value), j ≤ N ∧ jv = .int .i64 j ∧ Box2 wj w5.heap.size (wAt wt j) z ∧ OwnI wj (w5.heap.size + 1) z (tl.take (j - 2)) ∧ Below w5.heap.size wx wj) (fun jv _ => N - (intOf jv).toNat)
      case atStart => exact ⟨0, _, Nat.zero_le _, rfl, CX.out, by rw [Nat.zero_sub, List.take_zero]; exact World.ownsRow_nil _ _ _ _, Below.refl _ _⟩
      case round =>
        clear CX
        obtain ⟨j, z, hj, rfl, hbz, hoz, hbj⟩ := hrel
        have HBZ := Lib.hid hbz
        have HOZ := Lib.hid hoz
        have HBJ := Lib.hid hbj
        have HBK := Lib.hid (BXX.out.trans hbj)
        have j0 : (0 : Int) ≤ (j : Int) := by omega
        obtain ⟨za, zn, zc, rfl, _⟩ := hoz.formJ
        have hzj : w5.heap.size + 1 ≤ wr.heap.size := by have := hbj.size; omega
        clear hbz hoz hbj
        by_cases hjN : j < N
        · have j1 : (j : Int) < (N : Int) := by omega
          have gj := GW.out _ HBK.out (j + 1) (by omega)
          rw [show j + 1 = 1 + j by omega] at gj
          by_cases h1 : j = 1
          · have t1 : ((j : Int) == 1) = true := by rw [beq_iff_eq]; omega
            generalize WS.getD (1 + j) ⟨#[]⟩ = ws at gj
            have HWT := Lib.hid (show wAt wt (j + 1) = wAt wt j from by rw [wAt_pos _ (by omega), wAt_pos _ (by omega)])
            have HTT := Lib.hid (show tl.take (j + 1 - 2) = tl.take (j - 2) from by rw [show j + 1 - 2 = 0 by omega, show j - 2 = 0 by omega])
            clear h1
            go_wp2
            go_roundw
            case rel => exact ⟨j + 1, _, by omega, by go_num, by rw [HWT.out]; exact HBZ.out, by rw [HTT.out]; exact HOZ.out, HBJ.out⟩
            case measure => simp [intOf]; omega
          · have t1 : ((j : Int) == 1) = false := by rw [beq_eq_false_iff_ne]; omega
            by_cases h0 : j = 0
            · have t0 : ((j : Int) == 0) = true := by rw [beq_iff_eq]; omega
              rw [show 1 + j = 1 by omega, HW1'.out] at gj
              have HRD := Lib.hid (readG_decI (n := wt) hw1.1 (by omega))
              have hds := decIB_two hw1.1 hw1.2
              generalize decIB wt = ds at gj HRD hds
              rw [show 1 = 1 + j by omega] at gj
              have HWT := Lib.hid (show wAt wt (j + 1) = wt from wAt_pos _ (by omega))
              have HTT := Lib.hid (show tl.take (j + 1 - 2) = tl.take (j - 2) from by rw [show j + 1 - 2 = 0 by omega, show j - 2 = 0 by omega])
              clear h0 h1
              go_wp2_with fail
              refine (readDecimal_any ds _ (by omega)).mono ?_
              rintro e w6 ⟨he, b6⟩
              rw [HRD.out, show tupNB (wt, true) = .tuple #[.int .i64 wt, .bool true] from rfl] at he
              subst he
              have BZ6 := Lib.hid (HBZ.out.below b6)
              have OZ6 := Lib.hid (HOZ.out.below b6)
              have BJ6 := Lib.hid (HBJ.out.trans (b6.mono (by omega)))
              have e0 := BZ6.out.c.get 0 _ rfl
              have f0 := BZ6.out.f 0
              have el := BZ6.out.c.1
              clear b6 gj
              go_wp2
              go_roundw
              case rel => exact ⟨j + 1, _, by omega, by go_num, by rw [HWT.out]; exact BZ6.out.set0 _, by rw [HTT.out]; exact OZ6.out.fs (Fs.set1 _ _ _ _) (fun k hk => by omega), BJ6.out.setCell (by simp) _⟩
              case measure => simp [intOf]; omega
            · have t0 : ((j : Int) == 0) = false := by rw [beq_eq_false_iff_ne]; omega
              obtain ⟨i, hi⟩ : ∃ i, j = i + 2 := ⟨j - 2, by omega⟩
              have hil : i < tl.length := by have := HN.out; omega
              rw [show 1 + j = i + 3 by omega, HW3.out i hil] at gj
              have hxb := hx1 _ (List.getElem_mem hil)
              have hst := List.take_succ_eq_append_getElem hil
              generalize tl[i] = x at gj hxb hst
              have HRD := Lib.hid (readG_decI (n := x) hxb.1 (by omega))
              have hds := decIB_two hxb.1 hxb.2
              generalize decIB x = ds at gj HRD hds
              rw [show i + 3 = 1 + j by omega] at gj
              have HWT := Lib.hid (show wAt wt (j + 1) = wAt wt j from by rw [wAt_pos _ (by omega), wAt_pos _ (by omega)])
              have HTT := Lib.hid (show tl.take (j + 1 - 2) = tl.take (j - 2) ++ [x] from by rw [show j + 1 - 2 = i + 1 by omega, show j - 2 = i by omega]; exact hst)
              have hrl : (tl.take (j - 2)).length < 16777216 := by rw [List.length_take]; omega
              clear h0 h1 hst hi hil
              go_wp2_with fail
              refine (readDecimal_any ds _ (by omega)).mono ?_
              rintro e w6 ⟨he, b6⟩
              rw [HRD.out, show tupNB (x, true) = .tuple #[.int .i64 x, .bool true] from rfl] at he
              subst he
              have BZ6 := Lib.hid (HBZ.out.below b6)
              have OZ6 := Lib.hid (HOZ.out.below b6)
              have BJ6 := Lib.hid (HBJ.out.trans (b6.mono (by omega)))
              have e1 := BZ6.out.c.get 1 _ rfl
              have hz6 : w5.heap.size + 1 ≤ w6.heap.size := Nat.le_trans hzj b6.size
              clear b6 gj
              go_wp2_with (at_builtin; refine append_i64 _ x _ _ rfl rfl rfl OZ6.out rfl hrl hz6 ?_)
              intro v7 w7 o7 b7 z7
              rw [← HTT.out] at o7
              have b7' : Below (w5.heap.size + 1) w6 w7 := ((Below.refl w6.heap.size w6).alloc (Nat.le_refl _) _ |>.mono hz6).trans b7
              have Z7 := Lib.hid (BZ6.out.fs (Fs.of_belowB b7') (by omega))
              have O7 := Lib.hid o7
              have B7 := Lib.hid (BJ6.out.trans (b7'.mono (by omega)))
              obtain ⟨va7, vn7, vc7, rfl, _⟩ := o7.formJ
              have e1' := Z7.out.c.get 1 _ rfl
              have f1 := Z7.out.f 1
              have el := Z7.out.c.1
              clear o7 b7 z7 b7' e1
              go_wp2
              go_roundw
              case rel => exact ⟨j + 1, _, by omega, by go_num, by rw [HWT.out]; exact Z7.out.set _, O7.out.fs (Fs.set1 _ _ _ _) (fun k hk => by omega), B7.out.setCell (by simp) _⟩
              case measure => simp [intOf]; omega
        · obtain rfl : j = N := by omega
          obtain ⟨va, vn, vc, rfl, _⟩ := HO5.out.formJ
          have BXK := Lib.hid (BX5.out.fs (S := fun _ => False) (Fs.of_below HBK.out) (fun h => h))
          have HO3 := Lib.hid (HO5.out.below HBK.out)
          have HTA := Lib.hid (show tl.take (j - 2) = tl from by rw [HN.out, Nat.add_sub_cancel, List.take_length])
          have HU := Lib.hid (show OwnI wr (wq.heap.size + 1) (.slice za zn zc) tl from by have h := HOZ.out.lower (base' := wq.heap.size + 1) (by omega); rw [HTA.out] at h; exact h)
          have hbase : wq.heap.size + 1 ≤ wr.heap.size := by omega
          have HZ := Lib.hid (show Box2 wr w5.heap.size wt (.slice za zn zc) from by have h := HBZ.out; rw [wAt_pos _ (by omega)] at h; exact h)
          have c2 := BXK.out.c.get 2 _ rfl
          have e0 := HZ.out.c.get 0 _ rfl
          have e1 := HZ.out.c.get 1 _ rfl
          go_wp2_with (at_builtin; refine append_mapS wr _ _ rfl rfl rfl HO3.out HU.out rfl rfl hml hbase ?_)
          intro v7 w7 o7 f7 n7 b7
          rw [← HTK.out] at o7
          have X7 := Lib.hid (BXK.out.fs (Fs.of_belowB b7) (by omega))
          have O7 := Lib.hid o7
          have B7 := Lib.hid ((B5.out.trans (HBK.out.mono (by omega))).trans (b7.mono (by omega)))
          obtain ⟨va7, vn7, vc7, rfl, _⟩ := o7.formJ
          have g2 := X7.out.c.get 2 _ rfl
          have f2 := X7.out.f 2
          have gl := X7.out.c.1
          clear o7 f7 n7 b7 c2 e0 e1
          go_wp2
          go_roundw
          case rel => exact ⟨k + 1, _, by omega, by go_num, X7.out.set _, O7.out.set (by simp) _, B7.out.setCell (by simp) _⟩
          case measure => simp [intOf]; omega
    · obtain rfl : k = M := by omega
      have HMS := Lib.hid (show ms.take k = ms from by rw [HMM.out, List.take_length])
      rw [HMS.out] at HO
      obtain ⟨va, vn, vc, rfl, _⟩ := HO.out.formJ
      have x0 := HBX.out.c.get 0 _ rfl
      have x1 := HBX.out.c.get 1 _ rfl
      have x2 := HBX.out.c.get 2 _ rfl
      have xl := HBX.out.c.1
      clear hbw
      go_wp2_with fail
      refine (ValidMaps_ok _ HO.out.sl HV.out).mono ?_
      rintro e w6 ⟨rfl, b6⟩
      have HBX6 := Lib.hid (HBX.out.fs (S := fun _ => False) (Fs.of_below b6) (fun h => h))
      have HO6 := Lib.hid (HO.out.below b6)
      have HB6 := Lib.hid (HBW.out.trans (b6.mono (by omega)))
      clear b6 x0 x1 x2 xl
      have x0 := HBX6.out.c.get 0 _ rfl
      have x1 := HBX6.out.c.get 1 _ rfl
      have x2 := HBX6.out.c.get 2 _ rfl
      have xl := HBX6.out.c.1
      go_wp2_with fail
      refine (mapsText_any n T _ HO6.out.sl HV.out).mono ?_
      rintro e w7 ⟨he, b7⟩
      rw [HS.out] at he
      subst he
      have HBX7 := Lib.hid (HBX6.out.fs (S := fun _ => False) (Fs.of_below b7) (fun h => h))
      have HO7 := Lib.hid (HO6.out.below b7)
      have HB7 := Lib.hid (HB6.out.trans (b7.mono (by have := HB6.out.size; have := Z4.out; omega)))
      have HBw7 := Lib.hid (B4.out.trans (HB7.out.mono (by have := ZQ.out; omega)))
      clear b7 x0 x1 x2 xl
      have rb := R4.out.fs (S := fun k => wq.heap.size ≤ k) ⟨HB7.out.os, HB7.out.tape, HB7.out.output, HB7.out.size, fun k _ hk => HB7.out.block k (by omega)⟩ (by have := ZQ.out; omega)
      have k0 := HBX7.out.c.get 0 _ rfl
      have k1 := HBX7.out.c.get 1 _ rfl
      have k2 := HBX7.out.c.get 2 _ rfl
      have kl := HBX7.out.c.1
      have q0 := rb.c.get 0 _ rfl
      have q1 := rb.c.get 1 _ rfl
      have q2 := rb.c.get 2 _ rfl
      have f0 := rb.f 0
      have f1 := rb.f 1
      have f2 := rb.f 2
      have ql := rb.c.1
      have hzz := ZQ.out
      have tS : (s.toList == s.toList) = true := by simp
      clear rb
      go_wp2
      refine bodyPost_ret (v := .tuple #[.agg #[.int .i64 n, .int .i64 T, .slice va vn vc], .int .i64 0]) (by simp [results, Try.results19, go_sem, q0, q1, q2, ql]) rfl ⟨_, rfl, ?_, ?_⟩
      · exact OwnM.lower (OwnM.set (OwnM.set (OwnM.set HO7.out (by simp; omega) _) (by simp; omega) _) (by simp; omega) _) (by omega)
      · exact ((HBw7.out.setCell (by simp) _).setCell (by simp) _).setCell (by simp) _
end Go.Proofs.Ytceobhmbnkheiaa
