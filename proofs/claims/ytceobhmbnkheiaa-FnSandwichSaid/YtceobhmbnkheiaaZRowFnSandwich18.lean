/-
  Orders that are drawn.
-/
import Derived.Test.YtceobhmbnkheiaaZRowFnSandwich17
import Derived.Lib.QuietBelow
set_option linter.unusedVariables false
set_option linter.unusedSimpArgs false
namespace Go.Proofs.Ytceobhmbnkheiaa
open Go.RowKit Go.Sort
theorem mid_len (n : Nat) (c : Bool) : (midB n c).length = n ∧ ∀ r ∈ midB n c, r.length = n := by
  unfold midB
  refine ⟨by simp, fun r hr => ?_⟩
  rw [List.mem_map] at hr
  obtain ⟨s, _, rfl⟩ := hr
  simp
theorem top_len (n : Nat) (c : Bool) (j : Nat) : (topB n c j).length = n ∧ ∀ r ∈ topB n c j, r.length = n := by
  unfold topB
  refine ⟨by simp, fun r hr => ?_⟩
  rw [List.mem_map] at hr
  obtain ⟨s, _, rfl⟩ := hr
  simp

set_option maxRecDepth 100000 in
set_option maxHeartbeats 8000000 in
theorem l05DrawOrder_any (b K m : Nat) (w : World) (hs : SrcB w b K) (hK : K ≤ 100000) (h4 : m < 4) :
    Calls Try.prog 51 #[.pointer (some ⟨b, 0, none⟩), .int .i64 ((m + 1 : Nat) : Int)] w fun e w' => ∃ r B, e = .returned r ∧ OrdB (m + 1) B ∧ GB.OwnD w' w.heap.size r B ∧ Fs (fun k => k = b) w w' := by
  have HS := Lib.hid hs
  have hbw := hs.lt
  obtain ⟨n, hn⟩ : ∃ n, n = m + 1 := ⟨_, rfl⟩
  have HN := Lib.hid hn
  rw [← hn]
  have hn1 : 1 ≤ n := by omega
  have hn4 : n ≤ 4 := by omega
  have LO := Lib.hid (show OrdB n (lineB n) from by rw [hn]; exact ordC_ok (by omega) (by omega) (line_ok m h4))
  have MO := Lib.hid (show ∀ c, OrdB n (midB n c) from fun c => by rw [hn]; exact ordC_ok (by omega) (by omega) (mid_ok m h4 c))
  have TO := Lib.hid (show ∀ c, OrdB n (topB n c n) from fun c => by rw [hn]; exact ordC_ok (by omega) (by omega) (top_ok m h4 c))
  have LM := Lib.hid (show lineB n = midB n true from by rw [hn]; exact line_mid m h4)
  have MT := Lib.hid (show ∀ c, topB n c 1 = midB n c from fun c => by rw [hn]; exact mid_top m h4 c)
  have S1 := Lib.hid (show ∀ c a q, a < q → q < n → (decide (a = 0) || decide (q = n - 1)) = true → setB (midB n c) a q true = midB n c from fun c a q h1 h2 h3 => by
    subst hn
    exact mid_set h4 c h1 h2 (by simpa using h3))
  have S2 := Lib.hid (show ∀ c a q, a < q → q < n → (decide (a = 0) || decide (q = n - 1)) = false → ∀ v, setB (midB n c) a q v = midB n v from fun c a q h1 h2 h3 v => by
    subst hn
    exact mid_set2 h4 c h1 h2 (by simpa using h3) v)
  have S3 := Lib.hid (show ∀ c k a q, k < n → a < n → q < n → setB (midB n c) a q (leB (midB n c) a q || (leB (midB n c) a k && leB (midB n c) k q)) = midB n c from fun c k a q h1 h2 h3 => by
    subst hn
    exact mid_clo h4 c h1 h2 h3)
  have S4 := Lib.hid (show ∀ c j, 1 ≤ j → j < n → setB (topB n c j) 0 j false = topB n c (j + 1) from fun c j h1 h2 => by
    subst hn
    exact top_set h4 c h1 h2)
  clear hs hn h4
  go_enter Try.func51, Try.ntmps51
  go_wp2_with fail
  refine (l05Line_any n w hn1 (by omega)).mono ?_
  rintro e w1 ⟨r, rfl, o1, b1⟩
  rw [LM.out] at o1
  obtain ⟨g, gc, rb0, rc0, rfl, hox⟩ := OwB_of o1 hn1 (mid_len n true).1 (mid_len n true).2
  have hlg := hox.lo
  clear hox
  have O1 := Lib.hid o1
  have HLG := Lib.hid (show w.heap.size ≤ g from hlg)
  have F1 := Lib.hid (Fs.of_below (S := fun k => k = b) b1)
  have SR1 := Lib.hid (HS.out.below b1)
  clear o1 b1
  go_wp2_with fail
  refine (one_any b K 2 w1 SR1.out (by omega)).mono ?_
  rintro e w2 ⟨d, rfl, s2, f2⟩
  have O2 := Lib.hid (O1.out.fs f2 (fun k hk => by omega))
  have F2 := Lib.hid (F1.out.trans f2)
  have SR2 := Lib.hid s2
  clear s2 f2
  cases d
  · go_wp2
    go_loopw [6] (fun iv wr => ∃ (a : Nat) (c : Bool), a ≤ n ∧ iv = .int .i64 a ∧ GB.OwnD wr w.heap.size (.slice (some ⟨g, 0, none⟩) n gc) (midB n c) ∧ SrcB wr b (K + 2 + 2 * (a * 4)) ∧ Fs (fun k => k = b) w wr) (fun iv _ => n - (intOf iv).toNat)
    case atStart => exact ⟨0, true, Nat.zero_le _, rfl, O2.out, SR2.out.more (by omega), F2.out⟩
    case round =>
      clear O2 SR2 F2
      obtain ⟨a, c, ha, rfl, ho, hsr, hf⟩ := hrel
      have HO := Lib.hid ho
      have HSR := Lib.hid hsr
      have HF := Lib.hid hf
      clear ho hsr hf
      by_cases han : a < n
      · have i1 : (a : Int) < (n : Int) := by omega
        have SRM := Lib.hid (HSR.out.more (show K + 2 + 2 * (a * 4) ≤ K + 2 + 2 * (a * 4 + (a + 1)) by omega))
        go_wp2
        go_loopw [7] (fun jv wi => ∃ (q : Nat) (c : Bool), a + 1 ≤ q ∧ q ≤ n ∧ jv = .int .i64 q ∧ GB.OwnD wi w.heap.size (.slice (some ⟨g, 0, none⟩) n gc) (midB n c) ∧ SrcB wi b (K + 2 + 2 * (a * 4 + q)) ∧ Fs (fun k => k = b) w wi) (fun jv _ => n - (intOf jv).toNat)
        case atStart => exact ⟨a + 1, c, Nat.le_refl _, by omega, by go_num, HO.out, SRM.out, HF.out⟩
        case round =>
          clear HO HSR HF SRM
          obtain ⟨q, c, hq1, hq, rfl, ho, hsr, hf⟩ := hrel
          have HO := Lib.hid ho
          have HSR := Lib.hid hsr
          have HF := Lib.hid hf
          by_cases hqn : q < n
          · have i2 : (q : Int) < (n : Int) := by omega
            have i3 : (0 : Int) ≤ (q : Int) := by omega
            have i4 : (0 : Int) ≤ (a : Int) := by omega
            have r1 : IntKind.i64.wrap ((n : Int) - 1) = (n : Int) - 1 := IntWalk.i64_in _ (by omega)
            obtain ⟨g2, gc2, rb, rc, he, ow⟩ := OwB_of ho hn1 (mid_len n c).1 (mid_len n c).2
            simp only [Value.slice.injEq, Option.some.injEq, Addr.mk.injEq, and_true, true_and] at he
            obtain ⟨rfl, rfl⟩ := he
            have gr := ow.row a han
            clear ho hsr hf ow
            by_cases hc : (decide (a = 0) || decide (q = n - 1)) = true
            · have HST := Lib.hid (S1.out c a q (by omega) hqn hc)
              have k1 := fun d os => cell_regrown gr d os
              have e1 : ((a : Int) == 0) = decide (a = 0) := by rw [Bool.eq_iff_iff]; simp
              have e2 : ((q : Int) == (n : Int) - 1) = decide (q = n - 1) := by rw [Bool.eq_iff_iff]; simp; omega
              generalize decide (a = 0) = A0 at hc e1
              generalize decide (q = n - 1) = Q0 at hc e2
              cases A0
              · have hQ : Q0 = true := by simpa using hc
                subst hQ
                clear hc
                go_wp2_with fail
                refine wp_region_below_tail 18 (by kernel_rfl) (by kernel_rfl) ?_
                simp only [List.take_succ_cons, List.take_zero, List.drop_succ_cons, List.drop_zero]
                repeat (first | go_big_quiet_skip | quiet_step (fail))
                refine wpQuiet_nil ?_
                intro _ hw'
                obtain ⟨⟨dq, osq⟩, hw''⟩ := hw'
                subst hw''
                have bq0 := below_regrown wr dq osq
                generalize grow (redrawn wr dq) osq = wq at bq0 ⊢
                obtain ⟨g2, gc2, rb2, rc2, he, ow⟩ := OwB_of (HO.out.below bq0) hn1 (mid_len n c).1 (mid_len n c).2
                simp only [Value.slice.injEq, Option.some.injEq, Addr.mk.injEq, and_true, true_and] at he
                obtain ⟨rfl, rfl⟩ := he
                have gr2 := ow.row a han
                rw [bq0.cell (p := ⟨g, a, none⟩) (cell_lt gr), gr] at gr2
                simp only [Option.some.injEq, Value.slice.injEq, Addr.mk.injEq, and_true, true_and] at gr2
                obtain ⟨hrb, hrc⟩ := gr2
                rw [hrb]
                have gq := ow.bit a q han hqn
                have fq := ow.free a q han
                have hh := ow.high a han
                have OS := Lib.hid (ow.set a q true han hqn)
                rw [HST.out] at OS
                have FS := Lib.hid (Fs.setHigh (HF.out.trans (Fs.of_below bq0)) (a := ⟨rb2 a, q, none⟩) hh.1 (.bool true))
                have SS := Lib.hid (((HSR.out.below bq0).fs (Fs.set (S := fun k => k = rb2 a) (Fs.refl _ _) (a := ⟨rb2 a, q, none⟩) rfl (.bool true)) (fun k hk => by omega)).more (show K + 2 + 2 * (a * 4 + q) ≤ K + 2 + 2 * (a * 4 + (q + 1)) by omega))
                clear k1 bq0 ow gr hrb hrc hh
                go_wp2
                go_roundw
                case rel => exact ⟨q + 1, c, by omega, by omega, by go_num, OS.out, SS.out, FS.out⟩
                case measure => simp [intOf]; omega
              · clear hc e2
                go_wp2_with fail
                refine wp_region_below_tail 18 (by kernel_rfl) (by kernel_rfl) ?_
                simp only [List.take_succ_cons, List.take_zero, List.drop_succ_cons, List.drop_zero]
                repeat (first | go_big_quiet_skip | quiet_step (fail))
                refine wpQuiet_nil ?_
                intro _ hw'
                obtain ⟨⟨dq, osq⟩, hw''⟩ := hw'
                subst hw''
                have bq0 := below_regrown wr dq osq
                generalize grow (redrawn wr dq) osq = wq at bq0 ⊢
                obtain ⟨g2, gc2, rb2, rc2, he, ow⟩ := OwB_of (HO.out.below bq0) hn1 (mid_len n c).1 (mid_len n c).2
                simp only [Value.slice.injEq, Option.some.injEq, Addr.mk.injEq, and_true, true_and] at he
                obtain ⟨rfl, rfl⟩ := he
                have gr2 := ow.row a han
                rw [bq0.cell (p := ⟨g, a, none⟩) (cell_lt gr), gr] at gr2
                simp only [Option.some.injEq, Value.slice.injEq, Addr.mk.injEq, and_true, true_and] at gr2
                obtain ⟨hrb, hrc⟩ := gr2
                rw [hrb]
                have gq := ow.bit a q han hqn
                have fq := ow.free a q han
                have hh := ow.high a han
                have OS := Lib.hid (ow.set a q true han hqn)
                rw [HST.out] at OS
                have FS := Lib.hid (Fs.setHigh (HF.out.trans (Fs.of_below bq0)) (a := ⟨rb2 a, q, none⟩) hh.1 (.bool true))
                have SS := Lib.hid (((HSR.out.below bq0).fs (Fs.set (S := fun k => k = rb2 a) (Fs.refl _ _) (a := ⟨rb2 a, q, none⟩) rfl (.bool true)) (fun k hk => by omega)).more (show K + 2 + 2 * (a * 4 + q) ≤ K + 2 + 2 * (a * 4 + (q + 1)) by omega))
                clear k1 bq0 ow gr hrb hrc hh
                go_wp2
                go_roundw
                case rel => exact ⟨q + 1, c, by omega, by omega, by go_num, OS.out, SS.out, FS.out⟩
                case measure => simp [intOf]; omega
            · have hcf : (decide (a = 0) || decide (q = n - 1)) = false := by simpa using hc
              have HST := Lib.hid (S2.out c a q (by omega) hqn hcf)
              have h1 : ¬ a = 0 := by intro e; rw [e] at hcf; simp at hcf
              have h2 : ¬ q = n - 1 := by intro e; rw [← e] at hcf; simp at hcf
              have e1 : ((a : Int) == 0) = false := by rw [beq_eq_false_iff_ne]; omega
              have e2 : ((q : Int) == (n : Int) - 1) = false := by rw [beq_eq_false_iff_ne]; omega
              have hgb : b < g := by have := cell_lt gr; have := HLG.out; omega
              clear hc hcf h1 h2
              go_wp2_with fail
              refine wpX_start (fun W => W.cell? ⟨g, a, none⟩ = some (.slice (some ⟨rb a, 0, none⟩) n (rc a)) ∧ True) [18] (by kernel_rfl) ?_
              have bd : Below wr.heap.size wr wr.drew := (Below.refl _ _).drew
              have hC : wr.drew.cell? ⟨g, a, none⟩ = some (.slice (some ⟨rb a, 0, none⟩) n (rc a)) ∧ True := ⟨gr, trivial⟩
              refine wpX_free (i := 0) (v := ?_) rfl (by kernel_rfl) (fun _ _ _ h => h) rfl (fun w' => ?_) ?_
              rotate_left
              · go_simp; try with_reducible rfl
              try simp only [Act.put, List.getElem_toArray, List.getElem_cons_zero, List.getElem_cons_succ, List.setIfInBounds_toArray, List.set_cons_zero, List.set_cons_succ]
              refine wpX_free (i := 1) (v := ?_) rfl (by kernel_rfl) (fun _ _ _ h => h) rfl (fun w' => ?_) ?_
              rotate_left
              · go_simp; try with_reducible rfl
              try simp only [Act.put, List.getElem_toArray, List.getElem_cons_zero, List.getElem_cons_succ, List.setIfInBounds_toArray, List.set_cons_zero, List.set_cons_succ]
              refine wpX_free (i := 2) (v := ?_) rfl (by kernel_rfl) (fun _ _ _ h => h) rfl (fun w' => ?_) ?_
              rotate_left
              · go_simp; try with_reducible rfl
              try simp only [Act.put, List.getElem_toArray, List.getElem_cons_zero, List.getElem_cons_succ, List.setIfInBounds_toArray, List.set_cons_zero, List.set_cons_succ]
              refine wpX_load (i := 3) (v := ?_) rfl (by kernel_rfl) (fun _ _ _ h => h) hC rfl (fun w' hw' => ?_) ?_
              rotate_left
              · obtain ⟨k1, k2⟩ := hw'; go_simp; try with_reducible rfl
              try simp only [Act.put, List.getElem_toArray, List.getElem_cons_zero, List.getElem_cons_succ, List.setIfInBounds_toArray, List.set_cons_zero, List.set_cons_succ]
              refine wpX_free (i := 4) (v := ?_) rfl (by kernel_rfl) (fun _ _ _ h => h) rfl (fun w' => ?_) ?_
              rotate_left
              · go_simp; try with_reducible rfl
              try simp only [Act.put, List.getElem_toArray, List.getElem_cons_zero, List.getElem_cons_succ, List.setIfInBounds_toArray, List.set_cons_zero, List.set_cons_succ]
              refine wpX_free (i := 5) (v := ?_) rfl (by kernel_rfl) (fun _ _ _ h => h) rfl (fun w' => ?_) ?_
              rotate_left
              · go_simp; try with_reducible rfl
              try simp only [Act.put, List.getElem_toArray, List.getElem_cons_zero, List.getElem_cons_succ, List.setIfInBounds_toArray, List.set_cons_zero, List.set_cons_succ]
              refine wpX_free (i := 6) (v := ?_) rfl (by kernel_rfl) (fun _ _ _ h => h) rfl (fun w' => ?_) ?_
              rotate_left
              · go_simp; try with_reducible rfl
              try simp only [Act.put, List.getElem_toArray, List.getElem_cons_zero, List.getElem_cons_succ, List.setIfInBounds_toArray, List.set_cons_zero, List.set_cons_succ]
              refine wpX_free (i := 7) (v := ?_) rfl (by kernel_rfl) (fun _ _ _ h => h) rfl (fun w' => ?_) ?_
              rotate_left
              · go_simp; try with_reducible rfl
              try simp only [Act.put, List.getElem_toArray, List.getElem_cons_zero, List.getElem_cons_succ, List.setIfInBounds_toArray, List.set_cons_zero, List.set_cons_succ]
              refine wpX_free (i := 8) (v := ?_) rfl (by kernel_rfl) (fun _ _ _ h => h) rfl (fun w' => ?_) ?_
              rotate_left
              · go_simp; try with_reducible rfl
              try simp only [Act.put, List.getElem_toArray, List.getElem_cons_zero, List.getElem_cons_succ, List.setIfInBounds_toArray, List.set_cons_zero, List.set_cons_succ]
              refine wpX_free (i := 9) (v := ?_) rfl (by kernel_rfl) (fun _ _ _ h => h) rfl (fun w' => ?_) ?_
              rotate_left
              · go_simp; try with_reducible rfl
              try simp only [Act.put, List.getElem_toArray, List.getElem_cons_zero, List.getElem_cons_succ, List.setIfInBounds_toArray, List.set_cons_zero, List.set_cons_succ]
              refine wpX_free (i := 10) (v := ?_) rfl (by kernel_rfl) (fun _ _ _ h => h) rfl (fun w' => ?_) ?_
              rotate_left
              · go_simp; try with_reducible rfl
              try simp only [Act.put, List.getElem_toArray, List.getElem_cons_zero, List.getElem_cons_succ, List.setIfInBounds_toArray, List.set_cons_zero, List.set_cons_succ]
              refine wpX_free (i := 11) (v := ?_) rfl (by kernel_rfl) (fun _ _ _ h => h) rfl (fun w' => ?_) ?_
              rotate_left
              · go_simp; try with_reducible rfl
              try simp only [Act.put, List.getElem_toArray, List.getElem_cons_zero, List.getElem_cons_succ, List.setIfInBounds_toArray, List.set_cons_zero, List.set_cons_succ]
              refine wpX_free (i := 12) (v := ?_) rfl (by kernel_rfl) (fun _ _ _ h => h) rfl (fun w' => ?_) ?_
              rotate_left
              · go_simp; try with_reducible rfl
              try simp only [Act.put, List.getElem_toArray, List.getElem_cons_zero, List.getElem_cons_succ, List.setIfInBounds_toArray, List.set_cons_zero, List.set_cons_succ]
              refine wpX_free (i := 13) (v := ?_) rfl (by kernel_rfl) (fun _ _ _ h => h) rfl (fun w' => ?_) ?_
              rotate_left
              · go_simp; try with_reducible rfl
              try simp only [Act.put, List.getElem_toArray, List.getElem_cons_zero, List.getElem_cons_succ, List.setIfInBounds_toArray, List.set_cons_zero, List.set_cons_succ]
              refine wpX_free (i := 14) (v := ?_) rfl (by kernel_rfl) (fun _ _ _ h => h) rfl (fun w' => ?_) ?_
              rotate_left
              · go_simp; try with_reducible rfl
              try simp only [Act.put, List.getElem_toArray, List.getElem_cons_zero, List.getElem_cons_succ, List.setIfInBounds_toArray, List.set_cons_zero, List.set_cons_succ]
              refine wpX_oneG (i := 15) rfl (by kernel_rfl) rfl ?_
              intro K2 hK2
              go_simp
              go_at_call 76
              refine (one_any b _ 2 _ (HSR.out.below bd) (by omega)).mono ?_
              rintro e wq ⟨d, rfl, sq, fq0⟩
              have hC : wq.cell? ⟨g, a, none⟩ = some (.slice (some ⟨rb a, 0, none⟩) n (rc a)) ∧ True := ⟨by rw [fq0.cell (p := ⟨g, a, none⟩) (cell_lt gr) (show ¬ g = b by omega)]; exact gr, trivial⟩
              refine hK2 _ _ hC ?_
              clear hK2 K2
              try simp only [Act.put, List.getElem_toArray, List.getElem_cons_zero, List.getElem_cons_succ, List.setIfInBounds_toArray, List.set_cons_zero, List.set_cons_succ]
              refine wpX_free (i := 16) (v := ?_) rfl (by kernel_rfl) (fun _ _ _ h => h) rfl (fun w' => ?_) ?_
              rotate_left
              · go_simp; try with_reducible rfl
              try simp only [Act.put, List.getElem_toArray, List.getElem_cons_zero, List.getElem_cons_succ, List.setIfInBounds_toArray, List.set_cons_zero, List.set_cons_succ]
              refine wpX_free (i := 17) (v := ?_) rfl (by kernel_rfl) (fun _ _ _ h => h) rfl (fun w' => ?_) ?_
              rotate_left
              · go_simp; try with_reducible rfl
              try simp only [Act.put, List.getElem_toArray, List.getElem_cons_zero, List.getElem_cons_succ, List.setIfInBounds_toArray, List.set_cons_zero, List.set_cons_succ]
              refine wpX_rest (t := [18]) (l := [_]) rfl (by kernel_rfl) (by kernel_rfl) ?_
              clear hC
              simp only [List.getElem_toArray, List.getElem_cons_zero, List.getElem_cons_succ]
              obtain ⟨g2, gc2, rb2, rc2, he, ow⟩ := OwB_of ((HO.out.below bd).fs fq0 (fun k hk => by omega)) hn1 (mid_len n c).1 (mid_len n c).2
              simp only [Value.slice.injEq, Option.some.injEq, Addr.mk.injEq, and_true, true_and] at he
              obtain ⟨rfl, rfl⟩ := he
              have gr2 := ow.row a han
              rw [fq0.cell (p := ⟨g, a, none⟩) (cell_lt gr) (show ¬ g = b by omega)] at gr2
              have gr3 : some (Value.slice (some ⟨rb a, 0, none⟩) n (rc a)) = some (.slice (some ⟨rb2 a, 0, none⟩) n (rc2 a)) := by rw [← gr2]; exact gr.symm
              simp only [Option.some.injEq, Value.slice.injEq, Addr.mk.injEq, and_true, true_and] at gr3
              obtain ⟨hrb, hrc⟩ := gr3
              rw [hrb]
              have gq := ow.bit a q han hqn
              have fq := ow.free a q han
              have hh := ow.high a han
              have OS := Lib.hid (ow.set a q d han hqn)
              rw [HST.out] at OS
              have FS := Lib.hid (Fs.setHigh ((HF.out.trans (Fs.of_below bd)).trans fq0) (a := ⟨rb2 a, q, none⟩) hh.1 (.bool d))
              have SS := Lib.hid ((sq.fs (Fs.set (S := fun k => k = rb2 a) (Fs.refl _ _) (a := ⟨rb2 a, q, none⟩) rfl (.bool d)) (fun k hk => by omega)).more (show K + 2 + 2 * (a * 4 + q) + 2 ≤ K + 2 + 2 * (a * 4 + (q + 1)) by omega))
              clear ow gr gr2 hrb hrc hh sq fq0 bd
              go_wp2
              go_roundw
              case rel => exact ⟨q + 1, d, by omega, by omega, by go_num, OS.out, SS.out, FS.out⟩
              case measure => simp [intOf]; omega
          · obtain rfl : q = n := by omega
            have SRM := Lib.hid (HSR.out.more (show K + 2 + 2 * (a * 4 + q) ≤ K + 2 + 2 * ((a + 1) * 4) by omega))
            clear ho hsr hf
            go_wp2
            go_roundw
            case rel => exact ⟨a + 1, c, by omega, by go_num, HO.out, SRM.out, HF.out⟩
            case measure => simp [intOf]; omega
      · obtain rfl : a = n := by omega
        go_wp2
        go_loopw [8] (fun iv wi => ∃ k : Nat, k ≤ a ∧ iv = .int .i64 k ∧ GB.OwnD wi w.heap.size (.slice (some ⟨g, 0, none⟩) a gc) (midB a c) ∧ SrcB wi b (K + 2 + 2 * (a * 4)) ∧ Fs (fun k => k = b) w wi) (fun iv _ => a - (intOf iv).toNat)
        case atStart => exact ⟨0, Nat.zero_le _, rfl, HO.out, HSR.out, HF.out⟩
        case round =>
          clear HO HSR HF
          obtain ⟨k, hk, rfl, ho, hsr, hf⟩ := hrel
          have HO := Lib.hid ho
          have HSR := Lib.hid hsr
          have HF := Lib.hid hf
          clear ho hsr hf
          by_cases hkn : k < a
          · have i1 : (k : Int) < (a : Int) := by omega
            have i0 : (0 : Int) ≤ (k : Int) := by omega
            go_wp2
            go_loopw [9] (fun iv wi => ∃ p : Nat, p ≤ a ∧ iv = .int .i64 p ∧ GB.OwnD wi w.heap.size (.slice (some ⟨g, 0, none⟩) a gc) (midB a c) ∧ SrcB wi b (K + 2 + 2 * (a * 4)) ∧ Fs (fun k => k = b) w wi) (fun iv _ => a - (intOf iv).toNat)
            case atStart => exact ⟨0, Nat.zero_le _, rfl, HO.out, HSR.out, HF.out⟩
            case round =>
              clear HO HSR HF
              obtain ⟨p, hp, rfl, ho, hsr, hf⟩ := hrel
              have HO := Lib.hid ho
              have HSR := Lib.hid hsr
              have HF := Lib.hid hf
              clear ho hsr hf
              by_cases hpn : p < a
              · have i2 : (p : Int) < (a : Int) := by omega
                have i3 : (0 : Int) ≤ (p : Int) := by omega
                go_wp2
                go_loopw [10] (fun iv wi => ∃ q : Nat, q ≤ a ∧ iv = .int .i64 q ∧ GB.OwnD wi w.heap.size (.slice (some ⟨g, 0, none⟩) a gc) (midB a c) ∧ SrcB wi b (K + 2 + 2 * (a * 4)) ∧ Fs (fun k => k = b) w wi) (fun iv _ => a - (intOf iv).toNat)
                case atStart => exact ⟨0, Nat.zero_le _, rfl, HO.out, HSR.out, HF.out⟩
                case round =>
                  clear HO HSR HF
                  obtain ⟨q, hq, rfl, ho, hsr, hf⟩ := hrel
                  have HO := Lib.hid ho
                  have HSR := Lib.hid hsr
                  have HF := Lib.hid hf
                  by_cases hqn : q < a
                  · have i4 : (q : Int) < (a : Int) := by omega
                    have i5 : (0 : Int) ≤ (q : Int) := by omega
                    obtain ⟨g2, gc2, rb, rc, he, ow⟩ := OwB_of ho hn1 (mid_len a c).1 (mid_len a c).2
                    simp only [Value.slice.injEq, Option.some.injEq, Addr.mk.injEq, and_true, true_and] at he
                    obtain ⟨rfl, rfl⟩ := he
                    have gr := ow.row p hpn
                    have gk := ow.row k hkn
                    have b1 := ow.bit p q hpn hqn
                    have b2 := ow.bit p k hpn hkn
                    have b3 := ow.bit k q hkn hqn
                    have HST := Lib.hid (S3.out c k p q hkn hpn hqn)
                    obtain ⟨X, hX⟩ : ∃ X, X = leB (midB a c) p q := ⟨_, rfl⟩
                    obtain ⟨Y, hY⟩ : ∃ Y, Y = leB (midB a c) p k := ⟨_, rfl⟩
                    obtain ⟨Z, hZ⟩ : ∃ Z, Z = leB (midB a c) k q := ⟨_, rfl⟩
                    rw [← hX] at b1 HST
                    rw [← hY] at b2 HST
                    rw [← hZ] at b3 HST
                    have HPQ := Lib.hid (show k = q → X = Y from fun e => by rw [hX, hY, e])
                    have HPK := Lib.hid (show p = k → X = Z from fun e => by rw [hX, hZ, e])
                    have k1 := fun d os => cell_regrown gr d os
                    have k2 := fun d os => cell_regrown gk d os
                    have k3 := fun d os => cell_regrown b1 d os
                    have k4 := fun d os => cell_regrown b2 d os
                    have k5 := fun d os => cell_regrown b3 d os
                    clear ho hsr hf ow hX hY hZ gk b1 b2 b3
                    cases X <;> cases Y <;> cases Z
                    all_goals
                      go_wp2_with fail
                      refine wp_region_below_tail 31 (by kernel_rfl) (by kernel_rfl) ?_
                      simp only [List.take_succ_cons, List.take_zero, List.drop_succ_cons, List.drop_zero]
                      repeat (first | go_big_quiet_skip | quiet_step (fail))
                      refine wpQuiet_nil ?_
                      intro _ hw'
                      obtain ⟨⟨dq, osq⟩, hw''⟩ := hw'
                      subst hw''
                      have bq0 := below_regrown wr dq osq
                      generalize grow (redrawn wr dq) osq = wq at bq0 ⊢
                      obtain ⟨g2, gc2, rb2, rc2, he, ow⟩ := OwB_of (HO.out.below bq0) hn1 (mid_len a c).1 (mid_len a c).2
                      simp only [Value.slice.injEq, Option.some.injEq, Addr.mk.injEq, and_true, true_and] at he
                      obtain ⟨rfl, rfl⟩ := he
                      have gr2 := ow.row p hpn
                      rw [bq0.cell (p := ⟨g, p, none⟩) (cell_lt gr), gr] at gr2
                      simp only [Option.some.injEq, Value.slice.injEq, Addr.mk.injEq, and_true, true_and] at gr2
                      obtain ⟨hrb, hrc⟩ := gr2
                      rw [hrb]
                      have gq := ow.bit p q hpn hqn
                      have fq := ow.free p q hpn
                      have hh := ow.high p hpn
                      have OS0 := fun x => ow.set p q x hpn hqn
                      have FS := Lib.hid (fun x => Fs.setHigh (HF.out.trans (Fs.of_below bq0)) (a := ⟨rb2 p, q, none⟩) hh.1 (.bool x))
                      have SS := Lib.hid (fun x => (HSR.out.below bq0).fs (Fs.set (S := fun k => k = rb2 p) (Fs.refl _ _) (a := ⟨rb2 p, q, none⟩) rfl (.bool x)) (fun k hk => by omega))
                      have OSH := Lib.hid OS0
                      clear k1 k2 k3 k4 k5 bq0 ow gr hrb hrc hh OS0
                      go_wp2
                      go_roundw
                      case rel => exact ⟨q + 1, by omega, by go_num, by first | (have h := OSH.out true; rw [show setB (midB a c) p q true = midB a c from HST.out] at h; exact h) | (have h := OSH.out false; rw [show setB (midB a c) p q false = midB a c from HST.out] at h; exact h), SS.out _, FS.out _⟩
                      case measure => simp [intOf]; omega
                  · obtain rfl : q = a := by omega
                    clear ho hsr hf
                    go_wp2
                    go_roundw
                    case rel => exact ⟨p + 1, by omega, by go_num, HO.out, HSR.out, HF.out⟩
                    case measure => simp [intOf]; omega
              · obtain rfl : p = a := by omega
                go_wp2
                go_roundw
                case rel => exact ⟨k + 1, by omega, by go_num, HO.out, HSR.out, HF.out⟩
                case measure => simp [intOf]; omega
          · obtain rfl : k = a := by omega
            by_cases hk2 : 2 < k
            · have e3 : (2 : Int) < (k : Int) := by omega
              go_wp2_with fail
              refine (one_any b _ 5 wr HSR.out (by omega)).mono ?_
              rintro e wx ⟨d, rfl, sx, fx⟩
              have HO3 := Lib.hid (HO.out.fs fx (fun k hk => by omega))
              have HF3 := Lib.hid (HF.out.trans fx)
              clear sx fx
              cases d
              · go_wp2
                go_ret
                exact ⟨_, _, rfl, MO.out c, HO3.out, HF3.out⟩
              · have HO4 := Lib.hid (show GB.OwnD wx w.heap.size (.slice (some ⟨g, 0, none⟩) k gc) (topB k c 1) from by rw [MT.out]; exact HO3.out)
                go_wp2
                go_loopw [11] (fun iv wi => ∃ j : Nat, 1 ≤ j ∧ j ≤ k ∧ iv = .int .i64 j ∧ GB.OwnD wi w.heap.size (.slice (some ⟨g, 0, none⟩) k gc) (topB k c j) ∧ Fs (fun k => k = b) w wi) (fun iv _ => k - (intOf iv).toNat)
                case atStart => exact ⟨1, Nat.le_refl _, by omega, rfl, HO4.out, HF3.out⟩
                case round =>
                  clear HO4 HF3 HO3
                  obtain ⟨j, hj1, hj, rfl, ho, hf⟩ := hrel
                  have HO := Lib.hid ho
                  have HF := Lib.hid hf
                  by_cases hjk : j < k
                  · have i4 : (j : Int) < (k : Int) := by omega
                    have i5 : (0 : Int) ≤ (j : Int) := by omega
                    have i6 : (0 : Int) < (k : Int) := by omega
                    have i7 : 0 < k := by omega
                    obtain ⟨g2, gc2, rb, rc, he, ow⟩ := OwB_of ho hn1 (top_len k c j).1 (top_len k c j).2
                    simp only [Value.slice.injEq, Option.some.injEq, Addr.mk.injEq, and_true, true_and] at he
                    obtain ⟨rfl, rfl⟩ := he
                    have gr := ow.row 0 i7
                    have gq := ow.bit 0 j i7 hjk
                    have fq := ow.free 0 j i7
                    have hh := ow.high 0 i7
                    have OS := Lib.hid (ow.set 0 j false i7 hjk)
                    rw [S4.out c j hj1 hjk] at OS
                    have FS := Lib.hid (Fs.setHigh HF.out (a := ⟨rb 0, j, none⟩) hh.1 (.bool false))
                    have hly := cell_lt gq
                    clear ho hf ow hh
                    go_wp2
                    go_roundw
                    case rel => exact ⟨j + 1, by omega, by omega, by go_num, OS.out, FS.out⟩
                    case measure => simp [intOf]; omega
                  · obtain rfl : j = k := by omega
                    clear ho hf
                    go_wp2
                    go_ret
                    exact ⟨_, _, rfl, TO.out c, HO.out, HF.out⟩
            · have e3 : ¬ (2 : Int) < (k : Int) := by omega
              go_wp2
              go_ret
              first | exact ⟨_, rfl, _, MO.out c, HO.out, HF.out⟩ | exact ⟨_, _, rfl, MO.out c, HO.out, HF.out⟩
  · go_wp2
    go_ret
    exact ⟨_, _, rfl, LO.out, by rw [LM.out]; exact O2.out, F2.out⟩

set_option maxRecDepth 100000 in
set_option maxHeartbeats 1000000 in
theorem P6Below_any {xs : List Int} (ad : Option Addr) (n c m : Nat) (w : World) (hn : n ≤ 4096) (hx : xs.length = n) (hr : Rd w ad (xs.map (.int .u8))) (hb : ∀ x ∈ xs, 0 ≤ x ∧ x < 256) (h4 : m < 4) :
    Calls Try.prog 16 #[.slice ad n c, .int .i64 ((m + 1 : Nat) : Int)] w fun e w' => ∃ r B, e = .returned r ∧ OrdB (m + 1) B ∧ GB.OwnD w' w.heap.size r B ∧ Below w.heap.size w w' := by
  have HR := Lib.hid hr
  have HB := Lib.hid hb
  have HX := Lib.hid hx
  obtain ⟨m1, hm1⟩ : ∃ m1 : Int, m1 = ((m + 1 : Nat) : Int) := ⟨_, rfl⟩
  have HM1 := Lib.hid hm1
  rw [← hm1]
  clear hr hb hx hm1
  go_enter Try.func16, Try.ntmps16
  go_wp2_with fail
  refine (l00From_any ad n c _ hn HX.out HR.out HB.out).mono ?_
  rintro e w1 ⟨rfl, s1, b1⟩
  have KD := Lib.hid (l05DrawOrder_any w.heap.size 0 m w1 s1 (by omega) h4)
  rw [← HM1.out] at KD
  have B1 := Lib.hid b1
  have hz1 := s1.lt
  clear s1 b1
  go_wp2_with fail
  refine KD.out.mono ?_
  rintro e w2 ⟨r, B, rfl, hO, o2, f2⟩
  obtain ⟨ra, rcc, rfl, _⟩ := o2.form
  have O2 := Lib.hid (o2.lower (base' := w.heap.size) (Nat.le_of_lt hz1))
  have B2 := Lib.hid (B1.out.trans (f2.below (B := w.heap.size) (Nat.le_of_lt hz1) (fun k hk => by omega)))
  have HO := Lib.hid hO
  clear o2 f2 hO
  go_wp2
  go_ret
  exact ⟨_, _, rfl, HO.out, O2.out, B2.out⟩
end Go.Proofs.Ytceobhmbnkheiaa
