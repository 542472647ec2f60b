/-
  A desk learns a record: the program's and the reference's. With it: The reference's reading of a line, one kind of word. The reference's reading of a line of a journal. ReadJournal, both sides.
-/
import Derived.Test.YtijpkcdalmlaiaaZRowFnPlantPackets16
import Derived.Test.YtijpkcdalmlaiaaZRowFnPlantPackets13
import Derived.Test.YtijpkcdalmlaiaaZRowFnPlantPackets2
set_option linter.unusedVariables false
set_option linter.unusedSimpArgs false
namespace Go.Proofs.Ytijpkcdalmlaiaa
open Go.RowKit Go.Sort
set_option maxHeartbeats 8000000 in
theorem l09Parse_none {u : Value} (line : ByteArray) (b o : Nat) (st t bs sm wk : Int) (w : World) (hc : ServAt w b o st t u bs sm wk) (h3 : 1 ≤ sm) (h4 : sm ≤ 8) (h1 : 1 ≤ st) (h2 : st ≤ 6) (hs : line.size ≤ 1048576) (hx : ¬ (cuts line 32).getD 0 ⟨#[]⟩ = upB ∧ ¬ (cuts line 32).getD 0 ⟨#[]⟩ = gotB ∧ ¬ (cuts line 32).getD 0 ⟨#[]⟩ = outB) :
    Calls Try.prog 134 #[.pointer (some ⟨b, o, none⟩), .string line] w fun e w' => ParseP st sm line e ∧ Below w.heap.size w w' := by
  have hcl := cuts_lens line 32
  have hc1 := cuts_len line 32
  have hcs := hcl.2
  have hcl1 := hcl.1
  generalize hL : cuts line 32 = L at hc1 hcs hcl1 hx
  have HL := Lib.hid hL
  have HSZ := Lib.hid hcs
  have h0L : 0 < L.length := by omega
  have hx0 : L.getD 0 ⟨#[]⟩ = L[0]'h0L := by simp [h0L]
  rw [hx0] at hx
  have HX := Lib.hid hx
  generalize hn : numsG (L.drop 1) [] = R
  obtain ⟨n, okn⟩ := R
  have HN := Lib.hid hn
  clear hL hcl hcs hx0 hn hx
  have bx : Below w.heap.size w (w.alloc (.cells #[.int .i64 0, .int .i64 0, .int .i64 0] 121)) := (Below.refl _ _).alloc (Nat.le_refl _) _
  have QW := Lib.hid (fun W (h : Below (w.alloc (.cells #[.int .i64 0, .int .i64 0, .int .i64 0] 121)).heap.size (w.alloc (.cells #[.int .i64 0, .int .i64 0, .int .i64 0] 121)) W) =>
    show (W.cell? ⟨w.heap.size, 0, none⟩ = some (.int .i64 0) ∧ W.cell? ⟨w.heap.size, 1, none⟩ = some (.int .i64 0) ∧ W.cell? ⟨w.heap.size, 2, none⟩ = some (.int .i64 0)) ∧ W.frozen? ⟨w.heap.size, 0, none⟩ = false ∧ W.frozen? ⟨w.heap.size, 1, none⟩ = false ∧ W.frozen? ⟨w.heap.size, 2, none⟩ = false from by
      have a0 := h.cell (p := ⟨w.heap.size, 0, none⟩) (by simp)
      have a1 := h.cell (p := ⟨w.heap.size, 1, none⟩) (by simp)
      have a2 := h.cell (p := ⟨w.heap.size, 2, none⟩) (by simp)
      have f0 := h.frozen (p := ⟨w.heap.size, 0, none⟩) (by simp)
      have f1 := h.frozen (p := ⟨w.heap.size, 1, none⟩) (by simp)
      have f2 := h.frozen (p := ⟨w.heap.size, 2, none⟩) (by simp)
      simp [go_sem] at a0 a1 a2 f0 f1 f2
      exact ⟨⟨a0, a1, a2⟩, f0, f1, f2⟩)
  have HSV := Lib.hid (fun W (h : Below w.heap.size w W) => hc.below h)
  clear hc
  have hk : kindW (L.getD 0 ⟨#[]⟩) = 0 := by rw [show L.getD 0 ⟨#[]⟩ = L[0]'h0L by simp [h0L]]; unfold kindW; rw [if_neg HX.out.1, if_neg HX.out.2.1, if_neg HX.out.2.2]
  have HK := Lib.hid hk
  clear hk
  cases okn
  · skip
    go_enter Try.func134, Try.ntmps134
    go_wp2_with fail
    refine (l01Words_any line 32 _ hs).mono ?_
    rintro e w1 ⟨v1, rfl, o1, b1⟩
    rw [HL.out] at o1
    have hb1 := b1
    have HS := Lib.hid (fun W (h : Below w1.heap.size w1 W) => o1.sl.below h)
    obtain ⟨la, lc, rfl, lm1, lm2, _⟩ := id o1.sl
    unfold maxLen at lm2
    clear o1 b1
    go_wp2_with fail
    refine (l09Numbers_any 1 _ (HS.out _ (Below.refl _ _)) (by omega) (by omega) (fun y hy => by have := HSZ.out y hy; omega)).mono ?_
    rintro e w2 ⟨v2, rfl, o2, b2⟩
    rw [HN.out] at o2 ⊢
    unfold tupVB
    obtain ⟨na, nc, rfl, nl1, nl2, _⟩ := id o2.sl
    unfold maxLen at nl2
    have b12 : Below (w.alloc (.cells #[.int .i64 0, .int .i64 0, .int .i64 0] 121)).heap.size (w.alloc (.cells #[.int .i64 0, .int .i64 0, .int .i64 0] 121)) w2 := hb1.trans (b2.mono hb1.size)
    have z12 : w.heap.size < w2.heap.size := by have := b12.size; simp at this; omega
    obtain ⟨bb, off, rfl, hbb, gc⟩ := FS_get (HS.out _ (b2.alloc b2.size (.cells #[.int .i64 0, .int .i64 0, .int .i64 0] 121))) (i := 0) h0L
    simp only [Nat.add_zero] at gc
    have i1 : (0 : Int) < (L.length : Int) := by omega
    generalize hx0 : L[0]'h0L = x at gc
    have HX1 := HX.out
    rw [hx0] at HX1
    have t1 : (x.toList == [117, 112]) = false := by simp only [beq_eq_false_iff_ne, ne_eq]; intro e; rw [ByteArray.toList_eq] at e; exact HX1.1 (bext e)
    have t2 : (x.toList == [103, 111, 116]) = false := by simp only [beq_eq_false_iff_ne, ne_eq]; intro e; rw [ByteArray.toList_eq] at e; exact HX1.2.1 (bext e)
    have t3 : (x.toList == [111, 117, 116]) = false := by simp only [beq_eq_false_iff_ne, ne_eq]; intro e; rw [ByteArray.toList_eq] at e; exact HX1.2.2 (bext e)
    have s1 : ¬ x.toList = [117, 112] := by simpa using t1
    have s2 : ¬ x.toList = [103, 111, 116] := by simpa using t2
    have s3 : ¬ x.toList = [111, 117, 116] := by simpa using t3
    have HX0 := Lib.hid hx0
    clear hx0 HX1
    have hbX : Below (w.alloc (.cells #[.int .i64 0, .int .i64 0, .int .i64 0] 121)).heap.size (w.alloc (.cells #[.int .i64 0, .int .i64 0, .int .i64 0] 121)) (w2.alloc (.cells #[.int .i64 0, .int .i64 0, .int .i64 0] 121)) := (b12.alloc b12.size _)
    obtain ⟨⟨r0, r1, r2⟩, f0, f1, f2⟩ := QW.out _ b12
    have HP := Lib.hid (show parseOk st sm 0 n false = false from rfl)
    go_wp2
    refine bodyPost_ret (v := .tuple #[recV (0, 0, 0), .bool false]) (by simp [results, Try.results134, go_sem, recV, r0, r1, r2, z12]) rfl ⟨?_, ?_⟩
    · refine ⟨(0, 0, 0), ?_, ?_⟩
      · rw [HL.out, HN.out, HK.out]
        exact congrArg (fun b => Ending.returned (.tuple #[recV (0, 0, 0), .bool b])) HP.out.symm
      · intro hp
        rw [HL.out, HN.out, HK.out] at hp
        exact absurd (hp.symm.trans HP.out) (by decide)
    · have hbq := bx.trans (b12.mono bx.size)
      exact (((hbq.setCell (Nat.le_refl _) _).setCell (Nat.le_refl _) _).setCell (Nat.le_refl _) _).alloc (by simp <;> omega) _
  · by_cases hl : n.length = 1
    · have e1 : ((n.length : Int) == 1) = true := by simp; omega
      have HLN := Lib.hid hl
      have il : ¬ (n.length : Int) < 1 := by omega
      have il2 : ¬ (2 : Int) < (n.length : Int) := by omega
      clear hl
      go_enter Try.func134, Try.ntmps134
      go_wp2_with fail
      refine (l01Words_any line 32 _ hs).mono ?_
      rintro e w1 ⟨v1, rfl, o1, b1⟩
      rw [HL.out] at o1
      have hb1 := b1
      have HS := Lib.hid (fun W (h : Below w1.heap.size w1 W) => o1.sl.below h)
      obtain ⟨la, lc, rfl, lm1, lm2, _⟩ := id o1.sl
      unfold maxLen at lm2
      clear o1 b1
      go_wp2_with fail
      refine (l09Numbers_any 1 _ (HS.out _ (Below.refl _ _)) (by omega) (by omega) (fun y hy => by have := HSZ.out y hy; omega)).mono ?_
      rintro e w2 ⟨v2, rfl, o2, b2⟩
      rw [HN.out] at o2 ⊢
      unfold tupVB
      obtain ⟨na, nc, rfl, nl1, nl2, _⟩ := id o2.sl
      unfold maxLen at nl2
      have b12 : Below (w.alloc (.cells #[.int .i64 0, .int .i64 0, .int .i64 0] 121)).heap.size (w.alloc (.cells #[.int .i64 0, .int .i64 0, .int .i64 0] 121)) w2 := hb1.trans (b2.mono hb1.size)
      have z12 : w.heap.size < w2.heap.size := by have := b12.size; simp at this; omega
      obtain ⟨bb, off, rfl, hbb, gc⟩ := FS_get (HS.out _ (b2.alloc b2.size (.cells #[.int .i64 0, .int .i64 0, .int .i64 0] 121))) (i := 0) h0L
      simp only [Nat.add_zero] at gc
      have i1 : (0 : Int) < (L.length : Int) := by omega
      generalize hx0 : L[0]'h0L = x at gc
      have HX1 := HX.out
      rw [hx0] at HX1
      have t1 : (x.toList == [117, 112]) = false := by simp only [beq_eq_false_iff_ne, ne_eq]; intro e; rw [ByteArray.toList_eq] at e; exact HX1.1 (bext e)
      have t2 : (x.toList == [103, 111, 116]) = false := by simp only [beq_eq_false_iff_ne, ne_eq]; intro e; rw [ByteArray.toList_eq] at e; exact HX1.2.1 (bext e)
      have t3 : (x.toList == [111, 117, 116]) = false := by simp only [beq_eq_false_iff_ne, ne_eq]; intro e; rw [ByteArray.toList_eq] at e; exact HX1.2.2 (bext e)
      have s1 : ¬ x.toList = [117, 112] := by simpa using t1
      have s2 : ¬ x.toList = [103, 111, 116] := by simpa using t2
      have s3 : ¬ x.toList = [111, 117, 116] := by simpa using t3
      have HX0 := Lib.hid hx0
      clear hx0 HX1
      have hbX : Below (w.alloc (.cells #[.int .i64 0, .int .i64 0, .int .i64 0] 121)).heap.size (w.alloc (.cells #[.int .i64 0, .int .i64 0, .int .i64 0] 121)) (w2.alloc (.cells #[.int .i64 0, .int .i64 0, .int .i64 0] 121)) := (b12.alloc b12.size _)
      obtain ⟨⟨r0, r1, r2⟩, f0, f1, f2⟩ := QW.out _ b12
      have HP := Lib.hid (show parseOk st sm 0 n true = false from parse_mix (.inl ⟨HLN.out, by decide⟩))
      go_wp2
      refine bodyPost_ret (v := .tuple #[recV (0, 0, 0), .bool false]) (by simp [results, Try.results134, go_sem, recV, r0, r1, r2, z12]) rfl ⟨?_, ?_⟩
      · refine ⟨(0, 0, 0), ?_, ?_⟩
        · rw [HL.out, HN.out, HK.out]
          exact congrArg (fun b => Ending.returned (.tuple #[recV (0, 0, 0), .bool b])) HP.out.symm
        · intro hp
          rw [HL.out, HN.out, HK.out] at hp
          exact absurd (hp.symm.trans HP.out) (by decide)
      · have hbq := bx.trans (b12.mono bx.size)
        exact (((hbq.setCell (Nat.le_refl _) _).setCell (Nat.le_refl _) _).setCell (Nat.le_refl _) _).alloc (by simp <;> omega) _
    · by_cases hl2 : n.length = 2
      · obtain ⟨n0, n1, rfl⟩ : ∃ n0 n1, n = [n0, n1] := by
          match n, hl2 with
          | [a, b], _ => exact ⟨a, b, rfl⟩
        clear hl hl2
        go_enter Try.func134, Try.ntmps134
        go_wp2_with fail
        refine (l01Words_any line 32 _ hs).mono ?_
        rintro e w1 ⟨v1, rfl, o1, b1⟩
        rw [HL.out] at o1
        have hb1 := b1
        have HS := Lib.hid (fun W (h : Below w1.heap.size w1 W) => o1.sl.below h)
        obtain ⟨la, lc, rfl, lm1, lm2, _⟩ := id o1.sl
        unfold maxLen at lm2
        clear o1 b1
        go_wp2_with fail
        refine (l09Numbers_any 1 _ (HS.out _ (Below.refl _ _)) (by omega) (by omega) (fun y hy => by have := HSZ.out y hy; omega)).mono ?_
        rintro e w2 ⟨v2, rfl, o2, b2⟩
        rw [HN.out] at o2 ⊢
        unfold tupVB
        obtain ⟨na, nc, rfl, nl1, nl2, _⟩ := id o2.sl
        unfold maxLen at nl2
        have b12 : Below (w.alloc (.cells #[.int .i64 0, .int .i64 0, .int .i64 0] 121)).heap.size (w.alloc (.cells #[.int .i64 0, .int .i64 0, .int .i64 0] 121)) w2 := hb1.trans (b2.mono hb1.size)
        have z12 : w.heap.size < w2.heap.size := by have := b12.size; simp at this; omega
        obtain ⟨bb, off, rfl, hbb, gc⟩ := FS_get (HS.out _ (b2.alloc b2.size (.cells #[.int .i64 0, .int .i64 0, .int .i64 0] 121))) (i := 0) h0L
        simp only [Nat.add_zero] at gc
        have i1 : (0 : Int) < (L.length : Int) := by omega
        generalize hx0 : L[0]'h0L = x at gc
        have HX1 := HX.out
        rw [hx0] at HX1
        have t1 : (x.toList == [117, 112]) = false := by simp only [beq_eq_false_iff_ne, ne_eq]; intro e; rw [ByteArray.toList_eq] at e; exact HX1.1 (bext e)
        have t2 : (x.toList == [103, 111, 116]) = false := by simp only [beq_eq_false_iff_ne, ne_eq]; intro e; rw [ByteArray.toList_eq] at e; exact HX1.2.1 (bext e)
        have t3 : (x.toList == [111, 117, 116]) = false := by simp only [beq_eq_false_iff_ne, ne_eq]; intro e; rw [ByteArray.toList_eq] at e; exact HX1.2.2 (bext e)
        have s1 : ¬ x.toList = [117, 112] := by simpa using t1
        have s2 : ¬ x.toList = [103, 111, 116] := by simpa using t2
        have s3 : ¬ x.toList = [111, 117, 116] := by simpa using t3
        have HX0 := Lib.hid hx0
        clear hx0 HX1
        obtain ⟨nb, noff, hadr, hnb, g0⟩ := o2.sl.at_ (k := 0) (by simp)
        obtain ⟨nb', noff', hadr', _, g1⟩ := o2.sl.at_ (k := 1) (by simp)
        rw [hadr] at hadr'
        simp at hadr'
        obtain ⟨rfl, rfl⟩ := hadr'
        subst hadr
        simp only [Nat.add_zero, List.getElem_cons_zero, List.getElem_cons_succ] at g0 g1
        have hbX : Below (w.alloc (.cells #[.int .i64 0, .int .i64 0, .int .i64 0] 121)).heap.size (w.alloc (.cells #[.int .i64 0, .int .i64 0, .int .i64 0] 121)) (w2.alloc (.cells #[.int .i64 0, .int .i64 n0, .int .i64 n1] 121)) := (b12.alloc b12.size _)
        have hne : ¬ w2.heap.size = nb := by omega
        have hne2 : ¬ nb = w2.heap.size := by omega
        have HSX := Lib.hid (HSV.out _ (bx.trans (hbX.mono bx.size)))
        have x0 : (w2.alloc (.cells #[.int .i64 0, .int .i64 n0, .int .i64 n1] 121)).cell? ⟨w2.heap.size, 0, none⟩ = some (.int .i64 0) := by simp [go_sem]
        have x1 : (w2.alloc (.cells #[.int .i64 0, .int .i64 n0, .int .i64 n1] 121)).cell? ⟨w2.heap.size, 1, none⟩ = some (.int .i64 n0) := by simp [go_sem]
        have x2 : (w2.alloc (.cells #[.int .i64 0, .int .i64 n0, .int .i64 n1] 121)).cell? ⟨w2.heap.size, 2, none⟩ = some (.int .i64 n1) := by simp [go_sem]
        have X := Lib.hid (And.intro x0 (And.intro x1 x2))
        clear x0 x1 x2
        clear o2
        go_upto_region 16 with (fail)
        generalize hW : (w2.alloc (.cells #[.int .i64 0, .int .i64 n0, .int .i64 n1] 121)) = W at hbX HSX X ⊢
        have HW := Lib.hid hW
        clear hW
        have k0 := fun d os => cell_regrown X.out.1 d os
        have k1 := fun d os => cell_regrown X.out.2.1 d os
        have k2 := fun d os => cell_regrown X.out.2.2 d os
        refine wp_region_below_tail 4 (by kernel_rfl) (by kernel_rfl) ?_
        simp only [List.take_succ_cons, List.take_zero, List.drop_succ_cons, List.drop_zero]
        repeat (first | go_big_quiet_skip | quiet_step (exact Calls.regrown_of (l09Record_any b o st t bs sm wk 0 n0 n1 _ (HSX.out.below (below_regrown _ _ _)) h3 h4 h1 h2)))
        refine wpQuiet_nil ?_
        intro _ hw'
        obtain ⟨⟨dq, osq⟩, hw''⟩ := hw'
        subst hw''
        have bq := hbX.trans ((below_regrown W dq osq).mono hbX.size)
        generalize grow (redrawn W dq) osq = wq at bq ⊢
        obtain ⟨⟨r0, r1, r2⟩, f0, f1, f2⟩ := QW.out _ bq
        have HP := Lib.hid (show parseOk st sm 0 [n0, n1] true = recOk st sm 0 n0 n1 from parse_go (by simp))
        clear k0 k1 k2
        go_wp2
        refine bodyPost_ret (v := .tuple #[recV (0, n0, n1), .bool (recOk st sm 0 n0 n1)]) (by simp [results, Try.results134, go_sem, recV, r0, r1, r2]) rfl ⟨?_, ?_⟩
        · refine ⟨(0, n0, n1), ?_, ?_⟩
          · rw [HL.out, HN.out, HK.out]
            exact congrArg (fun b => Ending.returned (.tuple #[recV (0, n0, n1), .bool b])) HP.out.symm
          · intro _
            rw [HL.out, HN.out, HK.out]
            rfl
        · have hbq := bx.trans (bq.mono bx.size)
          exact ((hbq.setCell (Nat.le_refl _) _).setCell (Nat.le_refl _) _).setCell (Nat.le_refl _) _
      · have HLN := Lib.hid (show ¬ (n.length = 1 ∨ n.length = 2) by omega)
        by_cases h0 : n.length < 1
        · clear hl hl2
          go_enter Try.func134, Try.ntmps134
          go_wp2_with fail
          refine (l01Words_any line 32 _ hs).mono ?_
          rintro e w1 ⟨v1, rfl, o1, b1⟩
          rw [HL.out] at o1
          have hb1 := b1
          have HS := Lib.hid (fun W (h : Below w1.heap.size w1 W) => o1.sl.below h)
          obtain ⟨la, lc, rfl, lm1, lm2, _⟩ := id o1.sl
          unfold maxLen at lm2
          clear o1 b1
          go_wp2_with fail
          refine (l09Numbers_any 1 _ (HS.out _ (Below.refl _ _)) (by omega) (by omega) (fun y hy => by have := HSZ.out y hy; omega)).mono ?_
          rintro e w2 ⟨v2, rfl, o2, b2⟩
          rw [HN.out] at o2 ⊢
          unfold tupVB
          obtain ⟨na, nc, rfl, nl1, nl2, _⟩ := id o2.sl
          unfold maxLen at nl2
          have b12 : Below (w.alloc (.cells #[.int .i64 0, .int .i64 0, .int .i64 0] 121)).heap.size (w.alloc (.cells #[.int .i64 0, .int .i64 0, .int .i64 0] 121)) w2 := hb1.trans (b2.mono hb1.size)
          have z12 : w.heap.size < w2.heap.size := by have := b12.size; simp at this; omega
          obtain ⟨bb, off, rfl, hbb, gc⟩ := FS_get (HS.out _ (b2.alloc b2.size (.cells #[.int .i64 0, .int .i64 0, .int .i64 0] 121))) (i := 0) h0L
          simp only [Nat.add_zero] at gc
          have i1 : (0 : Int) < (L.length : Int) := by omega
          generalize hx0 : L[0]'h0L = x at gc
          have HX1 := HX.out
          rw [hx0] at HX1
          have t1 : (x.toList == [117, 112]) = false := by simp only [beq_eq_false_iff_ne, ne_eq]; intro e; rw [ByteArray.toList_eq] at e; exact HX1.1 (bext e)
          have t2 : (x.toList == [103, 111, 116]) = false := by simp only [beq_eq_false_iff_ne, ne_eq]; intro e; rw [ByteArray.toList_eq] at e; exact HX1.2.1 (bext e)
          have t3 : (x.toList == [111, 117, 116]) = false := by simp only [beq_eq_false_iff_ne, ne_eq]; intro e; rw [ByteArray.toList_eq] at e; exact HX1.2.2 (bext e)
          have s1 : ¬ x.toList = [117, 112] := by simpa using t1
          have s2 : ¬ x.toList = [103, 111, 116] := by simpa using t2
          have s3 : ¬ x.toList = [111, 117, 116] := by simpa using t3
          have HX0 := Lib.hid hx0
          clear hx0 HX1
          have hbX : Below (w.alloc (.cells #[.int .i64 0, .int .i64 0, .int .i64 0] 121)).heap.size (w.alloc (.cells #[.int .i64 0, .int .i64 0, .int .i64 0] 121)) (w2.alloc (.cells #[.int .i64 0, .int .i64 0, .int .i64 0] 121)) := (b12.alloc b12.size _)
          obtain ⟨⟨r0, r1, r2⟩, f0, f1, f2⟩ := QW.out _ b12
          have HP := Lib.hid (show parseOk st sm 0 n true = false from parse_len HLN.out)
          go_wp2
          refine bodyPost_ret (v := .tuple #[recV (0, 0, 0), .bool false]) (by simp [results, Try.results134, go_sem, recV, r0, r1, r2, z12]) rfl ⟨?_, ?_⟩
          · refine ⟨(0, 0, 0), ?_, ?_⟩
            · rw [HL.out, HN.out, HK.out]
              exact congrArg (fun b => Ending.returned (.tuple #[recV (0, 0, 0), .bool b])) HP.out.symm
            · intro hp
              rw [HL.out, HN.out, HK.out] at hp
              exact absurd (hp.symm.trans HP.out) (by decide)
          · have hbq := bx.trans (b12.mono bx.size)
            exact (((hbq.setCell (Nat.le_refl _) _).setCell (Nat.le_refl _) _).setCell (Nat.le_refl _) _).alloc (by simp <;> omega) _
        · have il : ¬ (n.length : Int) < 1 := by omega
          have il2 : (2 : Int) < (n.length : Int) := by omega
          clear hl hl2 h0
          go_enter Try.func134, Try.ntmps134
          go_wp2_with fail
          refine (l01Words_any line 32 _ hs).mono ?_
          rintro e w1 ⟨v1, rfl, o1, b1⟩
          rw [HL.out] at o1
          have hb1 := b1
          have HS := Lib.hid (fun W (h : Below w1.heap.size w1 W) => o1.sl.below h)
          obtain ⟨la, lc, rfl, lm1, lm2, _⟩ := id o1.sl
          unfold maxLen at lm2
          clear o1 b1
          go_wp2_with fail
          refine (l09Numbers_any 1 _ (HS.out _ (Below.refl _ _)) (by omega) (by omega) (fun y hy => by have := HSZ.out y hy; omega)).mono ?_
          rintro e w2 ⟨v2, rfl, o2, b2⟩
          rw [HN.out] at o2 ⊢
          unfold tupVB
          obtain ⟨na, nc, rfl, nl1, nl2, _⟩ := id o2.sl
          unfold maxLen at nl2
          have b12 : Below (w.alloc (.cells #[.int .i64 0, .int .i64 0, .int .i64 0] 121)).heap.size (w.alloc (.cells #[.int .i64 0, .int .i64 0, .int .i64 0] 121)) w2 := hb1.trans (b2.mono hb1.size)
          have z12 : w.heap.size < w2.heap.size := by have := b12.size; simp at this; omega
          obtain ⟨bb, off, rfl, hbb, gc⟩ := FS_get (HS.out _ (b2.alloc b2.size (.cells #[.int .i64 0, .int .i64 0, .int .i64 0] 121))) (i := 0) h0L
          simp only [Nat.add_zero] at gc
          have i1 : (0 : Int) < (L.length : Int) := by omega
          generalize hx0 : L[0]'h0L = x at gc
          have HX1 := HX.out
          rw [hx0] at HX1
          have t1 : (x.toList == [117, 112]) = false := by simp only [beq_eq_false_iff_ne, ne_eq]; intro e; rw [ByteArray.toList_eq] at e; exact HX1.1 (bext e)
          have t2 : (x.toList == [103, 111, 116]) = false := by simp only [beq_eq_false_iff_ne, ne_eq]; intro e; rw [ByteArray.toList_eq] at e; exact HX1.2.1 (bext e)
          have t3 : (x.toList == [111, 117, 116]) = false := by simp only [beq_eq_false_iff_ne, ne_eq]; intro e; rw [ByteArray.toList_eq] at e; exact HX1.2.2 (bext e)
          have s1 : ¬ x.toList = [117, 112] := by simpa using t1
          have s2 : ¬ x.toList = [103, 111, 116] := by simpa using t2
          have s3 : ¬ x.toList = [111, 117, 116] := by simpa using t3
          have HX0 := Lib.hid hx0
          clear hx0 HX1
          have hbX : Below (w.alloc (.cells #[.int .i64 0, .int .i64 0, .int .i64 0] 121)).heap.size (w.alloc (.cells #[.int .i64 0, .int .i64 0, .int .i64 0] 121)) (w2.alloc (.cells #[.int .i64 0, .int .i64 0, .int .i64 0] 121)) := (b12.alloc b12.size _)
          obtain ⟨⟨r0, r1, r2⟩, f0, f1, f2⟩ := QW.out _ b12
          have HP := Lib.hid (show parseOk st sm 0 n true = false from parse_len HLN.out)
          go_wp2
          refine bodyPost_ret (v := .tuple #[recV (0, 0, 0), .bool false]) (by simp [results, Try.results134, go_sem, recV, r0, r1, r2, z12]) rfl ⟨?_, ?_⟩
          · refine ⟨(0, 0, 0), ?_, ?_⟩
            · rw [HL.out, HN.out, HK.out]
              exact congrArg (fun b => Ending.returned (.tuple #[recV (0, 0, 0), .bool b])) HP.out.symm
            · intro hp
              rw [HL.out, HN.out, HK.out] at hp
              exact absurd (hp.symm.trans HP.out) (by decide)
          · have hbq := bx.trans (b12.mono bx.size)
            exact (((hbq.setCell (Nat.le_refl _) _).setCell (Nat.le_refl _) _).setCell (Nat.le_refl _) _).alloc (by simp <;> omega) _
end Go.Proofs.Ytijpkcdalmlaiaa
namespace Go.Proofs.Ytijpkcdalmlaiaa
open Go.RowKit Go.Sort
theorem l09Parse_any {u : Value} (line : ByteArray) (b o : Nat) (st t bs sm wk : Int) (w : World) (hc : ServAt w b o st t u bs sm wk) (h3 : 1 ≤ sm) (h4 : sm ≤ 8) (h1 : 1 ≤ st) (h2 : st ≤ 6) (hs : line.size ≤ 1048576) :
    Calls Try.prog 134 #[.pointer (some ⟨b, o, none⟩), .string line] w fun e w' => ParseP st sm line e ∧ Below w.heap.size w w' := by
  by_cases hx : (cuts line 32).getD 0 ⟨#[]⟩ = upB
  · exact l09Parse_up line b o st t bs sm wk w hc h3 h4 h1 h2 hs hx
  · by_cases hy : (cuts line 32).getD 0 ⟨#[]⟩ = gotB
    · exact l09Parse_got line b o st t bs sm wk w hc h3 h4 h1 h2 hs hy
    · by_cases hz : (cuts line 32).getD 0 ⟨#[]⟩ = outB
      · exact l09Parse_out line b o st t bs sm wk w hc h3 h4 h1 h2 hs hz
      · exact l09Parse_none line b o st t bs sm wk w hc h3 h4 h1 h2 hs ⟨hx, hy, hz⟩
end Go.Proofs.Ytijpkcdalmlaiaa
namespace Go.Proofs.Ytijpkcdalmlaiaa
open Go.RowKit Go.Sort
theorem Flat.Own.kept {α β : Type} {F : Flat α} {G : Flat β} (hne : F.E ≠ G.E) {w w' : World} {b b' : Nat} {u v : Value} {xs : List α} {ys : List β} (h : F.Own w b u xs) (h2 : G.Own w b' v ys) (hg : w.grownBy w' v.ownBlock) : F.Own w' b u xs := by
  refine World.ownsRow.kept h hg ?_
  cases hu : u.ownBlock with
  | none => exact .inl rfl
  | some g =>
    refine .inr (fun hv => ?_)
    rcases h.2 with ⟨rfl, _⟩ | ⟨g1, c1, cur1, rfl, _, k1, _⟩
    · simp [Value.ownBlock] at hu
    · rcases h2.2 with ⟨rfl, _⟩ | ⟨g2, c2, cur2, rfl, _, k2, _⟩
      · simp [Value.ownBlock] at hv
      · simp [Value.ownBlock] at hu hv
        subst hu
        subst hv
        rw [k1] at k2
        simp at k2
        exact hne k2.2
theorem recOf_iff {st sm : Int} {x : ByteArray} {q : Int × Int × Int} (h : readRecR x = q) : recOf st sm x = if recOk st sm q.1 q.2.1 q.2.2 = true then some q else none := by
  unfold recOf; rw [h]
def readAll (st sm : Int) : List ByteArray → List (Int × Int × Int) → List (Int × Int × Int) × Int
  | [], acc => (acc, 0)
  | l :: r, acc => match recOf st sm l with
    | some q => readAll st sm r (acc ++ [q])
    | none => ([], 5)
theorem readAll_some {st sm : Int} {L : List ByteArray} {acc : List (Int × Int × Int)} {k : Nat} (h : k < L.length) {q : Int × Int × Int} (hq : recOf st sm L[k] = some q) : readAll st sm (L.drop k) acc = readAll st sm (L.drop (k + 1)) (acc ++ [q]) := by
  rw [List.drop_eq_getElem_cons h]
  show (match recOf st sm L[k] with | some q => readAll st sm (L.drop (k + 1)) (acc ++ [q]) | none => ([], 5)) = _
  rw [hq]
theorem readAll_none {st sm : Int} {L : List ByteArray} {acc : List (Int × Int × Int)} {k : Nat} (h : k < L.length) (hq : recOf st sm L[k] = none) : readAll st sm (L.drop k) acc = ([], 5) := by
  rw [List.drop_eq_getElem_cons h]
  show (match recOf st sm L[k] with | some q => readAll st sm (L.drop (k + 1)) (acc ++ [q]) | none => ([], 5)) = _
  rw [hq]
def jReadR (s t : Int) (xss : List (List Int)) (bs sm wk : Int) (text : ByteArray) : List (Int × Int × Int) × Int :=
  if serviceOk s t xss bs sm wk = true then (if text.size ≤ 20000 then readAll s sm ((cuts text 10).take ((cuts text 10).length - 1)) [] else ([], 2)) else ([], 1)
def tupVI (v : Value) (c : Int) : Value := .tuple #[v, .int .i64 c]
theorem readAll_code (st sm : Int) : ∀ (L : List ByteArray) (acc : List (Int × Int × Int)), (readAll st sm L acc).1.length ≤ acc.length + L.length
  | [], acc => by simp [readAll]
  | l :: r, acc => by
    unfold readAll
    split
    · have := readAll_code st sm r (acc ++ [‹_›]); simp at this ⊢; omega
    · simp
theorem jReadR_len (s t : Int) (xss : List (List Int)) (bs sm wk : Int) (text : ByteArray) : (jReadR s t xss bs sm wk text).1.length ≤ 20001 := by
  unfold jReadR
  split
  · split
    · rename_i h
      have h1 := readAll_code s sm ((cuts text 10).take ((cuts text 10).length - 1)) []
      have h2 := (cuts_lens text 10).1
      simp at h1
      omega
    · simp
  · simp
end Go.Proofs.Ytijpkcdalmlaiaa
namespace Go.Proofs.Ytijpkcdalmlaiaa
open Go.RowKit Go.Sort
/-- all blocks but those of S stay -/
structure Fr (S : Nat → Prop) (w w' : World) : Prop where
  os : w'.os = w.os
  tape : w'.tape = w.tape
  output : w'.output = w.output
  size : w.heap.size ≤ w'.heap.size
  block : ∀ k, k < w.heap.size → ¬ S k → w'.heap[k]? = w.heap[k]?
theorem Fr.refl (S : Nat → Prop) (w : World) : Fr S w w := ⟨rfl, rfl, rfl, Nat.le_refl _, fun _ _ _ => rfl⟩
theorem Fr.trans {S : Nat → Prop} {a b c : World} (h : Fr S a b) (k : Fr S b c) : Fr S a c :=
  ⟨k.os.trans h.os, k.tape.trans h.tape, k.output.trans h.output, Nat.le_trans h.size k.size, fun i hi hx => (k.block i (Nat.lt_of_lt_of_le hi h.size) hx).trans (h.block i hi hx)⟩
theorem Fr.of_below {S : Nat → Prop} {w w' : World} (h : Below w.heap.size w w') : Fr S w w' := ⟨h.os, h.tape, h.output, h.size, fun k hk _ => h.block k hk⟩
theorem Fr.set {S : Nat → Prop} {w w' : World} (h : Fr S w w') {a : Addr} (ha : S a.block) (u : Value) : Fr S w (w'.setCell a u) :=
  ⟨h.os, h.tape, h.output, by simpa using h.size, fun k hk hx => by
    rw [heap_setCell_other w' a k u (fun e => hx (by rw [e]; exact ha))]; exact h.block k hk hx⟩
theorem Fr.below {S : Nat → Prop} {w w' : World} (h : Fr S w w') {B : Nat} (hB : B ≤ w.heap.size) (hS : ∀ k, S k → B ≤ k) : Below B w w' :=
  ⟨h.os, h.tape, h.output, h.size, fun k hk => h.block k (Nat.lt_of_lt_of_le hk hB) (fun hs => by have := hS k hs; omega)⟩
theorem Fr.mono {S T : Nat → Prop} {w w' : World} (h : Fr S w w') (hST : ∀ k, S k → T k) : Fr T w w' :=
  ⟨h.os, h.tape, h.output, h.size, fun k hk hx => h.block k hk (fun hs => hx (hST k hs))⟩
def In3 (a b c : Nat) (k : Nat) : Prop := k = a ∨ k = b ∨ k = c
/-- a desk's cells -/
def DeskAt (w : World) (b o : Nat) (vl vr : Value) (outs : Int) : Prop :=
  b < w.heap.size ∧ w.cell? ⟨b, o, none⟩ = some vl ∧ w.cell? ⟨b, o + 1, none⟩ = some vr ∧ w.cell? ⟨b, o + 2, none⟩ = some (.int .i64 outs) ∧ w.frozen? ⟨b, o + 2, none⟩ = false
theorem DeskAt.below {w w' : World} {b o : Nat} {vl vr : Value} {outs : Int} (h : DeskAt w b o vl vr outs) (hb : Below w.heap.size w w') : DeskAt w' b o vl vr outs :=
  ⟨Nat.lt_of_lt_of_le h.1 hb.size, by rw [hb.cell (p := ⟨b, o, none⟩) h.1]; exact h.2.1, by rw [hb.cell (p := ⟨b, o + 1, none⟩) h.1]; exact h.2.2.1, by rw [hb.cell (p := ⟨b, o + 2, none⟩) h.1]; exact h.2.2.2.1, by rw [hb.frozen (p := ⟨b, o + 2, none⟩) h.1]; exact h.2.2.2.2⟩
theorem DeskAt.far {w : World} {b o : Nat} {vl vr : Value} {outs : Int} (h : DeskAt w b o vl vr outs) {a : Addr} (ha : b ≠ a.block) (u : Value) : DeskAt (w.setCell a u) b o vl vr outs :=
  ⟨by simpa using h.1, by rw [World.cell?_of_block (heap_setCell_other w a b u ha)]; exact h.2.1, by rw [World.cell?_of_block (heap_setCell_other w a b u ha)]; exact h.2.2.1, by rw [World.cell?_of_block (heap_setCell_other w a b u ha)]; exact h.2.2.2.1, by
    have := h.2.2.2.2
    simpa [World.frozen?, heap_setCell_other w a b u ha] using this⟩
theorem OwnI.far {w : World} {base g n c : Nat} {xs : List Int} (h : OwnI w base (.slice (some ⟨g, 0, none⟩) n c) xs) {a : Addr} (ha : g ≠ a.block) (u : Value) : OwnI (w.setCell a u) base (.slice (some ⟨g, 0, none⟩) n c) xs := by
  have hg : w.grownBy (w.setCell a u) (some a.block) := ⟨rfl, rfl, rfl, by simp, fun k hk hne => heap_setCell_other w a k u (fun e => hne (by rw [e]))⟩
  exact World.ownsRow.kept h hg (.inr (fun e => ha (by simpa [Value.ownBlock] using e)))
/-- the state of a desk in memory: pointer, slices, contents -/
structure DeskIs (w : World) (base b o gl cl gr cr : Nat) (lv rs : List Int) (outs : Int) : Prop where
  at_ : DeskAt w b o (.slice (some ⟨gl, 0, none⟩) lv.length cl) (.slice (some ⟨gr, 0, none⟩) lv.length cr) outs
  ol : OwnI w base (.slice (some ⟨gl, 0, none⟩) lv.length cl) lv
  or_ : OwnI w base (.slice (some ⟨gr, 0, none⟩) lv.length cr) rs
  len : rs.length = lv.length
  lr : gl ≠ gr
  bl : b ≠ gl
  br : b ≠ gr
theorem DeskIs.below {w w' : World} {base b o gl cl gr cr : Nat} {lv rs : List Int} {outs : Int} (h : DeskIs w base b o gl cl gr cr lv rs outs) (hb : Below w.heap.size w w') : DeskIs w' base b o gl cl gr cr lv rs outs :=
  ⟨h.at_.below hb, h.ol.below hb, h.or_.below hb, h.len, h.lr, h.bl, h.br⟩
theorem DeskIs.setL {w : World} {base b o gl cl gr cr : Nat} {lv rs : List Int} {outs : Int} (h : DeskIs w base b o gl cl gr cr lv rs outs) (j : Nat) (x : Int) : DeskIs (w.setCell ⟨gl, j, none⟩ (.int .i64 x)) base b o gl cl gr cr (lv.set j x) rs outs := by
  have h1 := h.ol.set j x
  refine ⟨?_, ?_, ?_, by rw [List.length_set]; exact h.len, h.lr, h.bl, h.br⟩
  · rw [List.length_set]; exact h.at_.far h.bl _
  · rw [List.length_set]; exact h1
  · rw [List.length_set]; exact h.or_.far (Ne.symm h.lr) _
theorem DeskIs.setR {w : World} {base b o gl cl gr cr : Nat} {lv rs : List Int} {outs : Int} (h : DeskIs w base b o gl cl gr cr lv rs outs) (j : Nat) (x : Int) : DeskIs (w.setCell ⟨gr, j, none⟩ (.int .i64 x)) base b o gl cl gr cr lv (rs.set j x) outs :=
  ⟨h.at_.far h.br _, h.ol.far h.lr _, h.or_.set j x, by rw [List.length_set]; exact h.len, h.lr, h.bl, h.br⟩
theorem DeskIs.setO {w : World} {base b o gl cl gr cr : Nat} {lv rs : List Int} {outs : Int} (h : DeskIs w base b o gl cl gr cr lv rs outs) (x : Int) : DeskIs (w.setCell ⟨b, o + 2, none⟩ (.int .i64 x)) base b o gl cl gr cr lv rs x := by
  obtain ⟨h0, h1, h2, h3, h4⟩ := h.at_
  refine ⟨⟨by simpa using h0, ?_, ?_, ?_, by simpa using h4⟩, h.ol.far (Ne.symm h.bl) _, h.or_.far (Ne.symm h.br) _, h.len, h.lr, h.bl, h.br⟩
  · simp [go_sem, h1]
  · simp [go_sem, h2]
  · simp [go_sem, h3]
def Rec3At (w : World) (b : Nat) (k s v : Int) : Prop := b < w.heap.size ∧ w.cell? ⟨b, 0, none⟩ = some (.int .i64 k) ∧ w.cell? ⟨b, 1, none⟩ = some (.int .i64 s) ∧ w.cell? ⟨b, 2, none⟩ = some (.int .i64 v)
theorem Rec3At.below {w w' : World} {b : Nat} {k s v : Int} (h : Rec3At w b k s v) (hb : Below w.heap.size w w') : Rec3At w' b k s v :=
  ⟨Nat.lt_of_lt_of_le h.1 hb.size, by rw [hb.cell (p := ⟨b, 0, none⟩) h.1]; exact h.2.1, by rw [hb.cell (p := ⟨b, 1, none⟩) h.1]; exact h.2.2.1, by rw [hb.cell (p := ⟨b, 2, none⟩) h.1]; exact h.2.2.2⟩
theorem Rec3At.far {w : World} {b : Nat} {k s v : Int} (h : Rec3At w b k s v) {a : Addr} (ha : b ≠ a.block) (u : Value) : Rec3At (w.setCell a u) b k s v :=
  ⟨by simpa using h.1, by rw [World.cell?_of_block (heap_setCell_other w a b u ha)]; exact h.2.1, by rw [World.cell?_of_block (heap_setCell_other w a b u ha)]; exact h.2.2.1, by rw [World.cell?_of_block (heap_setCell_other w a b u ha)]; exact h.2.2.2⟩
theorem rec3At_new (w : World) (k s v : Int) : Rec3At (w.alloc (.cells #[.int .i64 k, .int .i64 s, .int .i64 v] 121)) w.heap.size k s v := by
  unfold Rec3At
  refine ⟨by simp, ?_, ?_, ?_⟩ <;> simp [go_sem]
def learnF (lv rs : List Int) (outs k s v : Int) : Option (List Int × List Int × Int) :=
  if k = 1 then (if rs.getD s.toNat 0 = -1 ∧ v = lv.getD s.toNat 0 + 1 then some (lv.set s.toNat v, if v = 7 then rs.set s.toNat (-2) else rs, outs) else none)
  else if k = 2 then (if rs.getD s.toNat 0 = -1 then some (lv, rs.set s.toNat v, outs) else none)
  else (if ¬ rs.getD s.toNat 0 = -1 ∧ s = outs then some (lv, rs, outs + 1) else none)
/-- all blocks but a desk's stay, and of the desk's own box all but the counter -/
structure FrD (b o gl gr : Nat) (w w' : World) : Prop extends Fr (In3 b gl gr) w w' where
  lt : b < w.heap.size
  box : ∀ i, i ≠ o + 2 → w'.cell? ⟨b, i, none⟩ = w.cell? ⟨b, i, none⟩
  fz : ∀ i, w'.frozen? ⟨b, i, none⟩ = w.frozen? ⟨b, i, none⟩
theorem FrD.of_below {b o gl gr : Nat} {w w' : World} (h : Below w.heap.size w w') (hb : b < w.heap.size) : FrD b o gl gr w w' :=
  ⟨Fr.of_below h, hb, fun i _ => h.cell (p := ⟨b, i, none⟩) hb, fun i => h.frozen (p := ⟨b, i, none⟩) hb⟩
theorem FrD.then_below {b o gl gr : Nat} {w w' w'' : World} (h : FrD b o gl gr w w') (k : Below w'.heap.size w' w'') : FrD b o gl gr w w'' :=
  have hb : b < w'.heap.size := Nat.lt_of_lt_of_le h.lt h.size
  ⟨h.toFr.trans (Fr.of_below k), h.lt, fun i hi => (k.cell (p := ⟨b, i, none⟩) hb).trans (h.box i hi), fun i => (k.frozen (p := ⟨b, i, none⟩) hb).trans (h.fz i)⟩
theorem FrD.setF {b o gl gr : Nat} {w w' : World} (h : FrD b o gl gr w w') {g : Nat} (hg : g = gl ∨ g = gr) (hne : b ≠ g) (j : Nat) (u : Value) : FrD b o gl gr w (w'.setCell ⟨g, j, none⟩ u) :=
  ⟨h.toFr.set (a := ⟨g, j, none⟩) (.inr hg) u, h.lt, fun i hi => by
    rw [World.cell?_of_block (heap_setCell_other w' ⟨g, j, none⟩ b u hne)]; exact h.box i hi, fun i => by
    rw [← h.fz i]; simp [World.frozen?, heap_setCell_other w' ⟨g, j, none⟩ b u hne]⟩
theorem FrD.setO {b o gl gr : Nat} {w w' : World} (h : FrD b o gl gr w w') (u : Value) : FrD b o gl gr w (w'.setCell ⟨b, o + 2, none⟩ u) :=
  ⟨h.toFr.set (a := ⟨b, o + 2, none⟩) (.inl rfl) u, h.lt, fun i hi => by
    rw [← h.box i hi]; simp [go_sem, Ne.symm hi, hi], fun i => by
    rw [← h.fz i]; simp [go_sem]⟩
/-- what a call that learns leaves -/
def LearnP (w : World) (base b o gl cl gr cr : Nat) (lv rs : List Int) (outs k s v : Int) (e : Ending) (w' : World) : Prop :=
  e = .returned (.bool (learnF lv rs outs k s v).isSome) ∧ FrD b o gl gr w w' ∧
    ∀ l r q, (learnF lv rs outs k s v).getD (lv, rs, outs) = (l, r, q) → DeskIs w' base b o gl cl gr cr l r q
theorem LearnP.no {w w' : World} {base b o gl cl gr cr : Nat} {lv rs : List Int} {outs k s v : Int} (hf : learnF lv rs outs k s v = none) (hd : DeskIs w' base b o gl cl gr cr lv rs outs) (hfr : FrD b o gl gr w w') :
    LearnP w base b o gl cl gr cr lv rs outs k s v (.returned (.bool false)) w' := by
  refine ⟨by rw [hf]; rfl, hfr, fun l r q h => ?_⟩
  rw [hf] at h
  simp at h
  obtain ⟨rfl, rfl, rfl⟩ := h
  exact hd
theorem LearnP.yes {w w' : World} {base b o gl cl gr cr : Nat} {lv rs l r : List Int} {outs q k s v : Int} (hf : learnF lv rs outs k s v = some (l, r, q)) (hd : DeskIs w' base b o gl cl gr cr l r q) (hfr : FrD b o gl gr w w') :
    LearnP w base b o gl cl gr cr lv rs outs k s v (.returned (.bool true)) w' := by
  refine ⟨by rw [hf]; rfl, hfr, fun l' r' q' h => ?_⟩
  rw [hf] at h
  simp at h
  obtain ⟨rfl, rfl, rfl⟩ := h
  exact hd
end Go.Proofs.Ytijpkcdalmlaiaa
