/-
  The reference's reading of a line, one kind of word. With it: The program's reading of a line of a journal. The reference's reading of a line of a journal. The reference's reading of a line, one kind of word. The reference's reading of a line, one kind of word.
-/
import Derived.Test.YtijpkcdalmlaiaaZRowFnPlantPackets13
import Derived.Test.YtijpkcdalmlaiaaZRowFnPlantPackets2
set_option linter.unusedVariables false
set_option linter.unusedSimpArgs false
namespace Go.Proofs.Ytijpkcdalmlaiaa
open Go.RowKit Go.Sort
def wordK : Nat → ByteArray
  | 1 => upB
  | 2 => gotB
  | 3 => outB
  | _ => ⟨#[]⟩
def MatchK (line : ByteArray) (k : Nat) : Prop := (behindG line (wordK k)).2 = true ∧ (behindG line (wordK k)).1.length = if k = 3 then 1 else 2
theorem behind_yes {line word : ByteArray} (h : (behindG line word).2 = true) : (cuts line 32).getD 0 ⟨#[]⟩ = word ∧ behindG line word = readsG ((cuts line 32).drop 1) [] := by
  unfold behindG at h ⊢
  split at h
  · rename_i h2; exact ⟨h2, if_pos h2⟩
  · simp at h
theorem match_rec {line : ByteArray} {k : Nat} (h : MatchK line k) (hk : k = 1 ∨ k = 2) : readRecR line = ((k : Int), (behindG line (wordK k)).1.getD 0 0, (behindG line (wordK k)).1.getD 1 0) := by
  obtain ⟨h1, h2⟩ := h
  obtain ⟨h3, h4⟩ := behind_yes h1
  rw [h4] at h1 h2 ⊢
  unfold readRecR recPick
  rw [h3, if_pos h1]
  rcases hk with rfl | rfl
  · rw [if_pos ⟨rfl, h2⟩]; rfl
  · rw [if_neg (by rintro ⟨e, _⟩; revert e; decide), if_pos ⟨rfl, h2⟩]; rfl
theorem match_out {line : ByteArray} (h : MatchK line 3) : readRecR line = (3, (behindG line (wordK 3)).1.getD 0 0, 0) := by
  obtain ⟨h1, h2⟩ := h
  obtain ⟨h3, h4⟩ := behind_yes h1
  rw [h4] at h1 h2 ⊢
  unfold readRecR recPick
  rw [h3, if_pos h1]
  rw [if_neg (by rintro ⟨e, _⟩; revert e; decide), if_neg (by rintro ⟨e, _⟩; revert e; decide), if_pos ⟨rfl, h2⟩]
theorem match_none {line : ByteArray} (h1 : ¬ MatchK line 1) (h2 : ¬ MatchK line 2) (h3 : ¬ MatchK line 3) : readRecR line = (0, 0, 0) := by
  have key : ∀ k, (cuts line 32).getD 0 ⟨#[]⟩ = wordK k → behindG line (wordK k) = readsG ((cuts line 32).drop 1) [] := by
    intro k e; unfold behindG; rw [if_pos e]
  unfold readRecR recPick
  split
  · rename_i hok
    split
    · rename_i h; exact absurd ⟨by rw [key 1 h.1]; exact hok, by rw [key 1 h.1]; exact h.2⟩ h1
    · split
      · rename_i h; exact absurd ⟨by rw [key 2 h.1]; exact hok, by rw [key 2 h.1]; exact h.2⟩ h2
      · split
        · rename_i h; exact absurd ⟨by rw [key 3 h.1]; exact hok, by rw [key 3 h.1]; exact h.2⟩ h3
        · rfl
  · rfl
def recV (r : Int × Int × Int) : Value := .agg #[.int .i64 r.1, .int .i64 r.2.1, .int .i64 r.2.2]
end Go.Proofs.Ytijpkcdalmlaiaa
namespace Go.Proofs.Ytijpkcdalmlaiaa
open Go.RowKit Go.Sort
def ParseP (st sm : Int) (line : ByteArray) (e : Ending) : Prop :=
  ∃ r : Int × Int × Int, e = .returned (.tuple #[recV r, .bool (parseOk st sm (kindW ((cuts line 32).getD 0 ⟨#[]⟩)) (numsG ((cuts line 32).drop 1) []).1 (numsG ((cuts line 32).drop 1) []).2)]) ∧
    (parseOk st sm (kindW ((cuts line 32).getD 0 ⟨#[]⟩)) (numsG ((cuts line 32).drop 1) []).1 (numsG ((cuts line 32).drop 1) []).2 = true → r = (kindW ((cuts line 32).getD 0 ⟨#[]⟩), (numsG ((cuts line 32).drop 1) []).1.getD 0 0, (numsG ((cuts line 32).drop 1) []).1.getD 1 0))
theorem parse_len {st sm k : Int} {n : List Int} (h : ¬ (n.length = 1 ∨ n.length = 2)) : parseOk st sm k n true = false := by
  unfold parseOk
  by_cases h1 : n.length = 0
  · simp [h1]
  · have : ¬ n.length ≤ 2 := by omega
    simp [this]
theorem parse_mix {st sm k : Int} {n : List Int} (h : (n.length = 1 ∧ ¬ k = 3) ∨ (n.length = 2 ∧ k = 3)) : parseOk st sm k n true = false := by
  unfold parseOk
  rcases h with ⟨h1, h2⟩ | ⟨h1, h2⟩ <;> simp [h1, h2]
theorem parse_go {st sm k : Int} {n : List Int} (h : (n.length = 1 ∧ k = 3) ∨ (n.length = 2 ∧ ¬ k = 3)) : parseOk st sm k n true = recOk st sm k (n.getD 0 0) (n.getD 1 0) := by
  unfold parseOk
  rcases h with ⟨h1, h2⟩ | ⟨h1, h2⟩ <;> simp [h1, h2]
end Go.Proofs.Ytijpkcdalmlaiaa
namespace Go.Proofs.Ytijpkcdalmlaiaa
open Go.RowKit Go.Sort
set_option maxHeartbeats 8000000 in
theorem l09Parse_up {u : Value} (line : ByteArray) (b o : Nat) (st t bs sm wk : Int) (w : World) (hc : ServAt w b o st t u bs sm wk) (h3 : 1 ≤ sm) (h4 : sm ≤ 8) (h1 : 1 ≤ st) (h2 : st ≤ 6) (hs : line.size ≤ 1048576) (hx : (cuts line 32).getD 0 ⟨#[]⟩ = upB) :
    Calls Try.prog 134 #[.pointer (some ⟨b, o, none⟩), .string line] w fun e w' => ParseP st sm line e ∧ Below w.heap.size w w' := by
  have hcl := cuts_lens line 32
  have hc1 := cuts_len line 32
  have hcs := hcl.2
  have hcl1 := hcl.1
  generalize hL : cuts line 32 = L at hc1 hcs hcl1 hx
  have HL := Lib.hid hL
  have HSZ := Lib.hid hcs
  have h0L : 0 < L.length := by omega
  have hx0 : L.getD 0 ⟨#[]⟩ = L[0]'h0L := by simp [h0L]
  rw [hx0] at hx
  have HX := Lib.hid hx
  generalize hn : numsG (L.drop 1) [] = R
  obtain ⟨n, okn⟩ := R
  have HN := Lib.hid hn
  clear hL hcl hcs hx0 hn hx
  have bx : Below w.heap.size w (w.alloc (.cells #[.int .i64 0, .int .i64 0, .int .i64 0] 121)) := (Below.refl _ _).alloc (Nat.le_refl _) _
  have QW := Lib.hid (fun W (h : Below (w.alloc (.cells #[.int .i64 0, .int .i64 0, .int .i64 0] 121)).heap.size (w.alloc (.cells #[.int .i64 0, .int .i64 0, .int .i64 0] 121)) W) =>
    show (W.cell? ⟨w.heap.size, 0, none⟩ = some (.int .i64 0) ∧ W.cell? ⟨w.heap.size, 1, none⟩ = some (.int .i64 0) ∧ W.cell? ⟨w.heap.size, 2, none⟩ = some (.int .i64 0)) ∧ W.frozen? ⟨w.heap.size, 0, none⟩ = false ∧ W.frozen? ⟨w.heap.size, 1, none⟩ = false ∧ W.frozen? ⟨w.heap.size, 2, none⟩ = false from by
      have a0 := h.cell (p := ⟨w.heap.size, 0, none⟩) (by simp)
      have a1 := h.cell (p := ⟨w.heap.size, 1, none⟩) (by simp)
      have a2 := h.cell (p := ⟨w.heap.size, 2, none⟩) (by simp)
      have f0 := h.frozen (p := ⟨w.heap.size, 0, none⟩) (by simp)
      have f1 := h.frozen (p := ⟨w.heap.size, 1, none⟩) (by simp)
      have f2 := h.frozen (p := ⟨w.heap.size, 2, none⟩) (by simp)
      simp [go_sem] at a0 a1 a2 f0 f1 f2
      exact ⟨⟨a0, a1, a2⟩, f0, f1, f2⟩)
  have HSV := Lib.hid (fun W (h : Below w.heap.size w W) => hc.below h)
  clear hc
  have hk : kindW (L.getD 0 ⟨#[]⟩) = 1 := by rw [show L.getD 0 ⟨#[]⟩ = L[0]'h0L by simp [h0L], HX.out]; decide
  have HK := Lib.hid hk
  clear hk
  cases okn
  · skip
    go_enter Try.func134, Try.ntmps134
    go_wp2_with fail
    refine (l01Words_any line 32 _ hs).mono ?_
    rintro e w1 ⟨v1, rfl, o1, b1⟩
    rw [HL.out] at o1
    have hb1 := b1
    have HS := Lib.hid (fun W (h : Below w1.heap.size w1 W) => o1.sl.below h)
    obtain ⟨la, lc, rfl, lm1, lm2, _⟩ := id o1.sl
    unfold maxLen at lm2
    clear o1 b1
    go_wp2_with fail
    refine (l09Numbers_any 1 _ (HS.out _ (Below.refl _ _)) (by omega) (by omega) (fun y hy => by have := HSZ.out y hy; omega)).mono ?_
    rintro e w2 ⟨v2, rfl, o2, b2⟩
    rw [HN.out] at o2 ⊢
    unfold tupVB
    obtain ⟨na, nc, rfl, nl1, nl2, _⟩ := id o2.sl
    unfold maxLen at nl2
    have b12 : Below (w.alloc (.cells #[.int .i64 0, .int .i64 0, .int .i64 0] 121)).heap.size (w.alloc (.cells #[.int .i64 0, .int .i64 0, .int .i64 0] 121)) w2 := hb1.trans (b2.mono hb1.size)
    have z12 : w.heap.size < w2.heap.size := by have := b12.size; simp at this; omega
    obtain ⟨bb, off, rfl, hbb, gc⟩ := FS_get (HS.out _ (b2.alloc b2.size (.cells #[.int .i64 0, .int .i64 0, .int .i64 0] 121))) (i := 0) h0L
    simp only [Nat.add_zero] at gc
    have i1 : (0 : Int) < (L.length : Int) := by omega
    rw [HX.out] at gc
    have tU : upB.toList = [117, 112] := by rw [ByteArray.toList_eq]; rfl
    have hbX : Below (w.alloc (.cells #[.int .i64 0, .int .i64 0, .int .i64 0] 121)).heap.size (w.alloc (.cells #[.int .i64 0, .int .i64 0, .int .i64 0] 121)) (w2.alloc (.cells #[.int .i64 1, .int .i64 0, .int .i64 0] 121)) := (b12.alloc b12.size _)
    obtain ⟨⟨r0, r1, r2⟩, f0, f1, f2⟩ := QW.out _ b12
    have HP := Lib.hid (show parseOk st sm 1 n false = false from rfl)
    go_wp2
    refine bodyPost_ret (v := .tuple #[recV (1, 0, 0), .bool false]) (by simp [results, Try.results134, go_sem, recV, r0, r1, r2, z12]) rfl ⟨?_, ?_⟩
    · refine ⟨(1, 0, 0), ?_, ?_⟩
      · rw [HL.out, HN.out, HK.out]
        exact congrArg (fun b => Ending.returned (.tuple #[recV (1, 0, 0), .bool b])) HP.out.symm
      · intro hp
        rw [HL.out, HN.out, HK.out] at hp
        exact absurd (hp.symm.trans HP.out) (by decide)
    · have hbq := bx.trans (b12.mono bx.size)
      exact (((hbq.setCell (Nat.le_refl _) _).setCell (Nat.le_refl _) _).setCell (Nat.le_refl _) _).alloc (by simp <;> omega) _
  · by_cases hl : n.length = 1
    · have e1 : ((n.length : Int) == 1) = true := by simp; omega
      have HLN := Lib.hid hl
      have il : ¬ (n.length : Int) < 1 := by omega
      have il2 : ¬ (2 : Int) < (n.length : Int) := by omega
      clear hl
      go_enter Try.func134, Try.ntmps134
      go_wp2_with fail
      refine (l01Words_any line 32 _ hs).mono ?_
      rintro e w1 ⟨v1, rfl, o1, b1⟩
      rw [HL.out] at o1
      have hb1 := b1
      have HS := Lib.hid (fun W (h : Below w1.heap.size w1 W) => o1.sl.below h)
      obtain ⟨la, lc, rfl, lm1, lm2, _⟩ := id o1.sl
      unfold maxLen at lm2
      clear o1 b1
      go_wp2_with fail
      refine (l09Numbers_any 1 _ (HS.out _ (Below.refl _ _)) (by omega) (by omega) (fun y hy => by have := HSZ.out y hy; omega)).mono ?_
      rintro e w2 ⟨v2, rfl, o2, b2⟩
      rw [HN.out] at o2 ⊢
      unfold tupVB
      obtain ⟨na, nc, rfl, nl1, nl2, _⟩ := id o2.sl
      unfold maxLen at nl2
      have b12 : Below (w.alloc (.cells #[.int .i64 0, .int .i64 0, .int .i64 0] 121)).heap.size (w.alloc (.cells #[.int .i64 0, .int .i64 0, .int .i64 0] 121)) w2 := hb1.trans (b2.mono hb1.size)
      have z12 : w.heap.size < w2.heap.size := by have := b12.size; simp at this; omega
      obtain ⟨bb, off, rfl, hbb, gc⟩ := FS_get (HS.out _ (b2.alloc b2.size (.cells #[.int .i64 0, .int .i64 0, .int .i64 0] 121))) (i := 0) h0L
      simp only [Nat.add_zero] at gc
      have i1 : (0 : Int) < (L.length : Int) := by omega
      rw [HX.out] at gc
      have tU : upB.toList = [117, 112] := by rw [ByteArray.toList_eq]; rfl
      have hbX : Below (w.alloc (.cells #[.int .i64 0, .int .i64 0, .int .i64 0] 121)).heap.size (w.alloc (.cells #[.int .i64 0, .int .i64 0, .int .i64 0] 121)) (w2.alloc (.cells #[.int .i64 1, .int .i64 0, .int .i64 0] 121)) := (b12.alloc b12.size _)
      obtain ⟨⟨r0, r1, r2⟩, f0, f1, f2⟩ := QW.out _ b12
      have HP := Lib.hid (show parseOk st sm 1 n true = false from parse_mix (.inl ⟨HLN.out, by decide⟩))
      go_wp2
      refine bodyPost_ret (v := .tuple #[recV (1, 0, 0), .bool false]) (by simp [results, Try.results134, go_sem, recV, r0, r1, r2, z12]) rfl ⟨?_, ?_⟩
      · refine ⟨(1, 0, 0), ?_, ?_⟩
        · rw [HL.out, HN.out, HK.out]
          exact congrArg (fun b => Ending.returned (.tuple #[recV (1, 0, 0), .bool b])) HP.out.symm
        · intro hp
          rw [HL.out, HN.out, HK.out] at hp
          exact absurd (hp.symm.trans HP.out) (by decide)
      · have hbq := bx.trans (b12.mono bx.size)
        exact (((hbq.setCell (Nat.le_refl _) _).setCell (Nat.le_refl _) _).setCell (Nat.le_refl _) _).alloc (by simp <;> omega) _
    · by_cases hl2 : n.length = 2
      · obtain ⟨n0, n1, rfl⟩ : ∃ n0 n1, n = [n0, n1] := by
          match n, hl2 with
          | [a, b], _ => exact ⟨a, b, rfl⟩
        clear hl hl2
        go_enter Try.func134, Try.ntmps134
        go_wp2_with fail
        refine (l01Words_any line 32 _ hs).mono ?_
        rintro e w1 ⟨v1, rfl, o1, b1⟩
        rw [HL.out] at o1
        have hb1 := b1
        have HS := Lib.hid (fun W (h : Below w1.heap.size w1 W) => o1.sl.below h)
        obtain ⟨la, lc, rfl, lm1, lm2, _⟩ := id o1.sl
        unfold maxLen at lm2
        clear o1 b1
        go_wp2_with fail
        refine (l09Numbers_any 1 _ (HS.out _ (Below.refl _ _)) (by omega) (by omega) (fun y hy => by have := HSZ.out y hy; omega)).mono ?_
        rintro e w2 ⟨v2, rfl, o2, b2⟩
        rw [HN.out] at o2 ⊢
        unfold tupVB
        obtain ⟨na, nc, rfl, nl1, nl2, _⟩ := id o2.sl
        unfold maxLen at nl2
        have b12 : Below (w.alloc (.cells #[.int .i64 0, .int .i64 0, .int .i64 0] 121)).heap.size (w.alloc (.cells #[.int .i64 0, .int .i64 0, .int .i64 0] 121)) w2 := hb1.trans (b2.mono hb1.size)
        have z12 : w.heap.size < w2.heap.size := by have := b12.size; simp at this; omega
        obtain ⟨bb, off, rfl, hbb, gc⟩ := FS_get (HS.out _ (b2.alloc b2.size (.cells #[.int .i64 0, .int .i64 0, .int .i64 0] 121))) (i := 0) h0L
        simp only [Nat.add_zero] at gc
        have i1 : (0 : Int) < (L.length : Int) := by omega
        rw [HX.out] at gc
        have tU : upB.toList = [117, 112] := by rw [ByteArray.toList_eq]; rfl
        obtain ⟨nb, noff, hadr, hnb, g0⟩ := o2.sl.at_ (k := 0) (by simp)
        obtain ⟨nb', noff', hadr', _, g1⟩ := o2.sl.at_ (k := 1) (by simp)
        rw [hadr] at hadr'
        simp at hadr'
        obtain ⟨rfl, rfl⟩ := hadr'
        subst hadr
        simp only [Nat.add_zero, List.getElem_cons_zero, List.getElem_cons_succ] at g0 g1
        have hbX : Below (w.alloc (.cells #[.int .i64 0, .int .i64 0, .int .i64 0] 121)).heap.size (w.alloc (.cells #[.int .i64 0, .int .i64 0, .int .i64 0] 121)) (w2.alloc (.cells #[.int .i64 1, .int .i64 n0, .int .i64 n1] 121)) := (b12.alloc b12.size _)
        have hne : ¬ w2.heap.size = nb := by omega
        have hne2 : ¬ nb = w2.heap.size := by omega
        have HSX := Lib.hid (HSV.out _ (bx.trans (hbX.mono bx.size)))
        have x0 : (w2.alloc (.cells #[.int .i64 1, .int .i64 n0, .int .i64 n1] 121)).cell? ⟨w2.heap.size, 0, none⟩ = some (.int .i64 1) := by simp [go_sem]
        have x1 : (w2.alloc (.cells #[.int .i64 1, .int .i64 n0, .int .i64 n1] 121)).cell? ⟨w2.heap.size, 1, none⟩ = some (.int .i64 n0) := by simp [go_sem]
        have x2 : (w2.alloc (.cells #[.int .i64 1, .int .i64 n0, .int .i64 n1] 121)).cell? ⟨w2.heap.size, 2, none⟩ = some (.int .i64 n1) := by simp [go_sem]
        have X := Lib.hid (And.intro x0 (And.intro x1 x2))
        clear x0 x1 x2
        clear o2
        go_upto_region 16 with (fail)
        generalize hW : (w2.alloc (.cells #[.int .i64 1, .int .i64 n0, .int .i64 n1] 121)) = W at hbX HSX X ⊢
        have HW := Lib.hid hW
        clear hW
        have k0 := fun d os => cell_regrown X.out.1 d os
        have k1 := fun d os => cell_regrown X.out.2.1 d os
        have k2 := fun d os => cell_regrown X.out.2.2 d os
        refine wp_region_below_tail 4 (by kernel_rfl) (by kernel_rfl) ?_
        simp only [List.take_succ_cons, List.take_zero, List.drop_succ_cons, List.drop_zero]
        repeat (first | go_big_quiet_skip | quiet_step (exact Calls.regrown_of (l09Record_any b o st t bs sm wk 1 n0 n1 _ (HSX.out.below (below_regrown _ _ _)) h3 h4 h1 h2)))
        refine wpQuiet_nil ?_
        intro _ hw'
        obtain ⟨⟨dq, osq⟩, hw''⟩ := hw'
        subst hw''
        have bq := hbX.trans ((below_regrown W dq osq).mono hbX.size)
        generalize grow (redrawn W dq) osq = wq at bq ⊢
        obtain ⟨⟨r0, r1, r2⟩, f0, f1, f2⟩ := QW.out _ bq
        have HP := Lib.hid (show parseOk st sm 1 [n0, n1] true = recOk st sm 1 n0 n1 from parse_go (by simp))
        clear k0 k1 k2
        go_wp2
        refine bodyPost_ret (v := .tuple #[recV (1, n0, n1), .bool (recOk st sm 1 n0 n1)]) (by simp [results, Try.results134, go_sem, recV, r0, r1, r2]) rfl ⟨?_, ?_⟩
        · refine ⟨(1, n0, n1), ?_, ?_⟩
          · rw [HL.out, HN.out, HK.out]
            exact congrArg (fun b => Ending.returned (.tuple #[recV (1, n0, n1), .bool b])) HP.out.symm
          · intro _
            rw [HL.out, HN.out, HK.out]
            rfl
        · have hbq := bx.trans (bq.mono bx.size)
          exact ((hbq.setCell (Nat.le_refl _) _).setCell (Nat.le_refl _) _).setCell (Nat.le_refl _) _
      · have HLN := Lib.hid (show ¬ (n.length = 1 ∨ n.length = 2) by omega)
        by_cases h0 : n.length < 1
        · clear hl hl2
          go_enter Try.func134, Try.ntmps134
          go_wp2_with fail
          refine (l01Words_any line 32 _ hs).mono ?_
          rintro e w1 ⟨v1, rfl, o1, b1⟩
          rw [HL.out] at o1
          have hb1 := b1
          have HS := Lib.hid (fun W (h : Below w1.heap.size w1 W) => o1.sl.below h)
          obtain ⟨la, lc, rfl, lm1, lm2, _⟩ := id o1.sl
          unfold maxLen at lm2
          clear o1 b1
          go_wp2_with fail
          refine (l09Numbers_any 1 _ (HS.out _ (Below.refl _ _)) (by omega) (by omega) (fun y hy => by have := HSZ.out y hy; omega)).mono ?_
          rintro e w2 ⟨v2, rfl, o2, b2⟩
          rw [HN.out] at o2 ⊢
          unfold tupVB
          obtain ⟨na, nc, rfl, nl1, nl2, _⟩ := id o2.sl
          unfold maxLen at nl2
          have b12 : Below (w.alloc (.cells #[.int .i64 0, .int .i64 0, .int .i64 0] 121)).heap.size (w.alloc (.cells #[.int .i64 0, .int .i64 0, .int .i64 0] 121)) w2 := hb1.trans (b2.mono hb1.size)
          have z12 : w.heap.size < w2.heap.size := by have := b12.size; simp at this; omega
          obtain ⟨bb, off, rfl, hbb, gc⟩ := FS_get (HS.out _ (b2.alloc b2.size (.cells #[.int .i64 0, .int .i64 0, .int .i64 0] 121))) (i := 0) h0L
          simp only [Nat.add_zero] at gc
          have i1 : (0 : Int) < (L.length : Int) := by omega
          rw [HX.out] at gc
          have tU : upB.toList = [117, 112] := by rw [ByteArray.toList_eq]; rfl
          have hbX : Below (w.alloc (.cells #[.int .i64 0, .int .i64 0, .int .i64 0] 121)).heap.size (w.alloc (.cells #[.int .i64 0, .int .i64 0, .int .i64 0] 121)) (w2.alloc (.cells #[.int .i64 1, .int .i64 0, .int .i64 0] 121)) := (b12.alloc b12.size _)
          obtain ⟨⟨r0, r1, r2⟩, f0, f1, f2⟩ := QW.out _ b12
          have HP := Lib.hid (show parseOk st sm 1 n true = false from parse_len HLN.out)
          go_wp2
          refine bodyPost_ret (v := .tuple #[recV (1, 0, 0), .bool false]) (by simp [results, Try.results134, go_sem, recV, r0, r1, r2, z12]) rfl ⟨?_, ?_⟩
          · refine ⟨(1, 0, 0), ?_, ?_⟩
            · rw [HL.out, HN.out, HK.out]
              exact congrArg (fun b => Ending.returned (.tuple #[recV (1, 0, 0), .bool b])) HP.out.symm
            · intro hp
              rw [HL.out, HN.out, HK.out] at hp
              exact absurd (hp.symm.trans HP.out) (by decide)
          · have hbq := bx.trans (b12.mono bx.size)
            exact (((hbq.setCell (Nat.le_refl _) _).setCell (Nat.le_refl _) _).setCell (Nat.le_refl _) _).alloc (by simp <;> omega) _
        · have il : ¬ (n.length : Int) < 1 := by omega
          have il2 : (2 : Int) < (n.length : Int) := by omega
          clear hl hl2 h0
          go_enter Try.func134, Try.ntmps134
          go_wp2_with fail
          refine (l01Words_any line 32 _ hs).mono ?_
          rintro e w1 ⟨v1, rfl, o1, b1⟩
          rw [HL.out] at o1
          have hb1 := b1
          have HS := Lib.hid (fun W (h : Below w1.heap.size w1 W) => o1.sl.below h)
          obtain ⟨la, lc, rfl, lm1, lm2, _⟩ := id o1.sl
          unfold maxLen at lm2
          clear o1 b1
          go_wp2_with fail
          refine (l09Numbers_any 1 _ (HS.out _ (Below.refl _ _)) (by omega) (by omega) (fun y hy => by have := HSZ.out y hy; omega)).mono ?_
          rintro e w2 ⟨v2, rfl, o2, b2⟩
          rw [HN.out] at o2 ⊢
          unfold tupVB
          obtain ⟨na, nc, rfl, nl1, nl2, _⟩ := id o2.sl
          unfold maxLen at nl2
          have b12 : Below (w.alloc (.cells #[.int .i64 0, .int .i64 0, .int .i64 0] 121)).heap.size (w.alloc (.cells #[.int .i64 0, .int .i64 0, .int .i64 0] 121)) w2 := hb1.trans (b2.mono hb1.size)
          have z12 : w.heap.size < w2.heap.size := by have := b12.size; simp at this; omega
          obtain ⟨bb, off, rfl, hbb, gc⟩ := FS_get (HS.out _ (b2.alloc b2.size (.cells #[.int .i64 0, .int .i64 0, .int .i64 0] 121))) (i := 0) h0L
          simp only [Nat.add_zero] at gc
          have i1 : (0 : Int) < (L.length : Int) := by omega
          rw [HX.out] at gc
          have tU : upB.toList = [117, 112] := by rw [ByteArray.toList_eq]; rfl
          have hbX : Below (w.alloc (.cells #[.int .i64 0, .int .i64 0, .int .i64 0] 121)).heap.size (w.alloc (.cells #[.int .i64 0, .int .i64 0, .int .i64 0] 121)) (w2.alloc (.cells #[.int .i64 1, .int .i64 0, .int .i64 0] 121)) := (b12.alloc b12.size _)
          obtain ⟨⟨r0, r1, r2⟩, f0, f1, f2⟩ := QW.out _ b12
          have HP := Lib.hid (show parseOk st sm 1 n true = false from parse_len HLN.out)
          go_wp2
          refine bodyPost_ret (v := .tuple #[recV (1, 0, 0), .bool false]) (by simp [results, Try.results134, go_sem, recV, r0, r1, r2, z12]) rfl ⟨?_, ?_⟩
          · refine ⟨(1, 0, 0), ?_, ?_⟩
            · rw [HL.out, HN.out, HK.out]
              exact congrArg (fun b => Ending.returned (.tuple #[recV (1, 0, 0), .bool b])) HP.out.symm
            · intro hp
              rw [HL.out, HN.out, HK.out] at hp
              exact absurd (hp.symm.trans HP.out) (by decide)
          · have hbq := bx.trans (b12.mono bx.size)
            exact (((hbq.setCell (Nat.le_refl _) _).setCell (Nat.le_refl _) _).setCell (Nat.le_refl _) _).alloc (by simp <;> omega) _
end Go.Proofs.Ytijpkcdalmlaiaa
namespace Go.Proofs.Ytijpkcdalmlaiaa
open Go.RowKit Go.Sort
set_option maxHeartbeats 8000000 in
theorem l09Parse_got {u : Value} (line : ByteArray) (b o : Nat) (st t bs sm wk : Int) (w : World) (hc : ServAt w b o st t u bs sm wk) (h3 : 1 ≤ sm) (h4 : sm ≤ 8) (h1 : 1 ≤ st) (h2 : st ≤ 6) (hs : line.size ≤ 1048576) (hx : (cuts line 32).getD 0 ⟨#[]⟩ = gotB) :
    Calls Try.prog 134 #[.pointer (some ⟨b, o, none⟩), .string line] w fun e w' => ParseP st sm line e ∧ Below w.heap.size w w' := by
  have hcl := cuts_lens line 32
  have hc1 := cuts_len line 32
  have hcs := hcl.2
  have hcl1 := hcl.1
  generalize hL : cuts line 32 = L at hc1 hcs hcl1 hx
  have HL := Lib.hid hL
  have HSZ := Lib.hid hcs
  have h0L : 0 < L.length := by omega
  have hx0 : L.getD 0 ⟨#[]⟩ = L[0]'h0L := by simp [h0L]
  rw [hx0] at hx
  have HX := Lib.hid hx
  generalize hn : numsG (L.drop 1) [] = R
  obtain ⟨n, okn⟩ := R
  have HN := Lib.hid hn
  clear hL hcl hcs hx0 hn hx
  have bx : Below w.heap.size w (w.alloc (.cells #[.int .i64 0, .int .i64 0, .int .i64 0] 121)) := (Below.refl _ _).alloc (Nat.le_refl _) _
  have QW := Lib.hid (fun W (h : Below (w.alloc (.cells #[.int .i64 0, .int .i64 0, .int .i64 0] 121)).heap.size (w.alloc (.cells #[.int .i64 0, .int .i64 0, .int .i64 0] 121)) W) =>
    show (W.cell? ⟨w.heap.size, 0, none⟩ = some (.int .i64 0) ∧ W.cell? ⟨w.heap.size, 1, none⟩ = some (.int .i64 0) ∧ W.cell? ⟨w.heap.size, 2, none⟩ = some (.int .i64 0)) ∧ W.frozen? ⟨w.heap.size, 0, none⟩ = false ∧ W.frozen? ⟨w.heap.size, 1, none⟩ = false ∧ W.frozen? ⟨w.heap.size, 2, none⟩ = false from by
      have a0 := h.cell (p := ⟨w.heap.size, 0, none⟩) (by simp)
      have a1 := h.cell (p := ⟨w.heap.size, 1, none⟩) (by simp)
      have a2 := h.cell (p := ⟨w.heap.size, 2, none⟩) (by simp)
      have f0 := h.frozen (p := ⟨w.heap.size, 0, none⟩) (by simp)
      have f1 := h.frozen (p := ⟨w.heap.size, 1, none⟩) (by simp)
      have f2 := h.frozen (p := ⟨w.heap.size, 2, none⟩) (by simp)
      simp [go_sem] at a0 a1 a2 f0 f1 f2
      exact ⟨⟨a0, a1, a2⟩, f0, f1, f2⟩)
  have HSV := Lib.hid (fun W (h : Below w.heap.size w W) => hc.below h)
  clear hc
  have hk : kindW (L.getD 0 ⟨#[]⟩) = 2 := by rw [show L.getD 0 ⟨#[]⟩ = L[0]'h0L by simp [h0L], HX.out]; decide
  have HK := Lib.hid hk
  clear hk
  cases okn
  · skip
    go_enter Try.func134, Try.ntmps134
    go_wp2_with fail
    refine (l01Words_any line 32 _ hs).mono ?_
    rintro e w1 ⟨v1, rfl, o1, b1⟩
    rw [HL.out] at o1
    have hb1 := b1
    have HS := Lib.hid (fun W (h : Below w1.heap.size w1 W) => o1.sl.below h)
    obtain ⟨la, lc, rfl, lm1, lm2, _⟩ := id o1.sl
    unfold maxLen at lm2
    clear o1 b1
    go_wp2_with fail
    refine (l09Numbers_any 1 _ (HS.out _ (Below.refl _ _)) (by omega) (by omega) (fun y hy => by have := HSZ.out y hy; omega)).mono ?_
    rintro e w2 ⟨v2, rfl, o2, b2⟩
    rw [HN.out] at o2 ⊢
    unfold tupVB
    obtain ⟨na, nc, rfl, nl1, nl2, _⟩ := id o2.sl
    unfold maxLen at nl2
    have b12 : Below (w.alloc (.cells #[.int .i64 0, .int .i64 0, .int .i64 0] 121)).heap.size (w.alloc (.cells #[.int .i64 0, .int .i64 0, .int .i64 0] 121)) w2 := hb1.trans (b2.mono hb1.size)
    have z12 : w.heap.size < w2.heap.size := by have := b12.size; simp at this; omega
    obtain ⟨bb, off, rfl, hbb, gc⟩ := FS_get (HS.out _ (b2.alloc b2.size (.cells #[.int .i64 0, .int .i64 0, .int .i64 0] 121))) (i := 0) h0L
    simp only [Nat.add_zero] at gc
    have i1 : (0 : Int) < (L.length : Int) := by omega
    rw [HX.out] at gc
    have tU : gotB.toList = [103, 111, 116] := by rw [ByteArray.toList_eq]; rfl
    have hbX : Below (w.alloc (.cells #[.int .i64 0, .int .i64 0, .int .i64 0] 121)).heap.size (w.alloc (.cells #[.int .i64 0, .int .i64 0, .int .i64 0] 121)) (w2.alloc (.cells #[.int .i64 2, .int .i64 0, .int .i64 0] 121)) := (b12.alloc b12.size _)
    obtain ⟨⟨r0, r1, r2⟩, f0, f1, f2⟩ := QW.out _ b12
    have HP := Lib.hid (show parseOk st sm 2 n false = false from rfl)
    go_wp2
    refine bodyPost_ret (v := .tuple #[recV (2, 0, 0), .bool false]) (by simp [results, Try.results134, go_sem, recV, r0, r1, r2, z12]) rfl ⟨?_, ?_⟩
    · refine ⟨(2, 0, 0), ?_, ?_⟩
      · rw [HL.out, HN.out, HK.out]
        exact congrArg (fun b => Ending.returned (.tuple #[recV (2, 0, 0), .bool b])) HP.out.symm
      · intro hp
        rw [HL.out, HN.out, HK.out] at hp
        exact absurd (hp.symm.trans HP.out) (by decide)
    · have hbq := bx.trans (b12.mono bx.size)
      exact (((hbq.setCell (Nat.le_refl _) _).setCell (Nat.le_refl _) _).setCell (Nat.le_refl _) _).alloc (by simp <;> omega) _
  · by_cases hl : n.length = 1
    · have e1 : ((n.length : Int) == 1) = true := by simp; omega
      have HLN := Lib.hid hl
      have il : ¬ (n.length : Int) < 1 := by omega
      have il2 : ¬ (2 : Int) < (n.length : Int) := by omega
      clear hl
      go_enter Try.func134, Try.ntmps134
      go_wp2_with fail
      refine (l01Words_any line 32 _ hs).mono ?_
      rintro e w1 ⟨v1, rfl, o1, b1⟩
      rw [HL.out] at o1
      have hb1 := b1
      have HS := Lib.hid (fun W (h : Below w1.heap.size w1 W) => o1.sl.below h)
      obtain ⟨la, lc, rfl, lm1, lm2, _⟩ := id o1.sl
      unfold maxLen at lm2
      clear o1 b1
      go_wp2_with fail
      refine (l09Numbers_any 1 _ (HS.out _ (Below.refl _ _)) (by omega) (by omega) (fun y hy => by have := HSZ.out y hy; omega)).mono ?_
      rintro e w2 ⟨v2, rfl, o2, b2⟩
      rw [HN.out] at o2 ⊢
      unfold tupVB
      obtain ⟨na, nc, rfl, nl1, nl2, _⟩ := id o2.sl
      unfold maxLen at nl2
      have b12 : Below (w.alloc (.cells #[.int .i64 0, .int .i64 0, .int .i64 0] 121)).heap.size (w.alloc (.cells #[.int .i64 0, .int .i64 0, .int .i64 0] 121)) w2 := hb1.trans (b2.mono hb1.size)
      have z12 : w.heap.size < w2.heap.size := by have := b12.size; simp at this; omega
      obtain ⟨bb, off, rfl, hbb, gc⟩ := FS_get (HS.out _ (b2.alloc b2.size (.cells #[.int .i64 0, .int .i64 0, .int .i64 0] 121))) (i := 0) h0L
      simp only [Nat.add_zero] at gc
      have i1 : (0 : Int) < (L.length : Int) := by omega
      rw [HX.out] at gc
      have tU : gotB.toList = [103, 111, 116] := by rw [ByteArray.toList_eq]; rfl
      have hbX : Below (w.alloc (.cells #[.int .i64 0, .int .i64 0, .int .i64 0] 121)).heap.size (w.alloc (.cells #[.int .i64 0, .int .i64 0, .int .i64 0] 121)) (w2.alloc (.cells #[.int .i64 2, .int .i64 0, .int .i64 0] 121)) := (b12.alloc b12.size _)
      obtain ⟨⟨r0, r1, r2⟩, f0, f1, f2⟩ := QW.out _ b12
      have HP := Lib.hid (show parseOk st sm 2 n true = false from parse_mix (.inl ⟨HLN.out, by decide⟩))
      go_wp2
      refine bodyPost_ret (v := .tuple #[recV (2, 0, 0), .bool false]) (by simp [results, Try.results134, go_sem, recV, r0, r1, r2, z12]) rfl ⟨?_, ?_⟩
      · refine ⟨(2, 0, 0), ?_, ?_⟩
        · rw [HL.out, HN.out, HK.out]
          exact congrArg (fun b => Ending.returned (.tuple #[recV (2, 0, 0), .bool b])) HP.out.symm
        · intro hp
          rw [HL.out, HN.out, HK.out] at hp
          exact absurd (hp.symm.trans HP.out) (by decide)
      · have hbq := bx.trans (b12.mono bx.size)
        exact (((hbq.setCell (Nat.le_refl _) _).setCell (Nat.le_refl _) _).setCell (Nat.le_refl _) _).alloc (by simp <;> omega) _
    · by_cases hl2 : n.length = 2
      · obtain ⟨n0, n1, rfl⟩ : ∃ n0 n1, n = [n0, n1] := by
          match n, hl2 with
          | [a, b], _ => exact ⟨a, b, rfl⟩
        clear hl hl2
        go_enter Try.func134, Try.ntmps134
        go_wp2_with fail
        refine (l01Words_any line 32 _ hs).mono ?_
        rintro e w1 ⟨v1, rfl, o1, b1⟩
        rw [HL.out] at o1
        have hb1 := b1
        have HS := Lib.hid (fun W (h : Below w1.heap.size w1 W) => o1.sl.below h)
        obtain ⟨la, lc, rfl, lm1, lm2, _⟩ := id o1.sl
        unfold maxLen at lm2
        clear o1 b1
        go_wp2_with fail
        refine (l09Numbers_any 1 _ (HS.out _ (Below.refl _ _)) (by omega) (by omega) (fun y hy => by have := HSZ.out y hy; omega)).mono ?_
        rintro e w2 ⟨v2, rfl, o2, b2⟩
        rw [HN.out] at o2 ⊢
        unfold tupVB
        obtain ⟨na, nc, rfl, nl1, nl2, _⟩ := id o2.sl
        unfold maxLen at nl2
        have b12 : Below (w.alloc (.cells #[.int .i64 0, .int .i64 0, .int .i64 0] 121)).heap.size (w.alloc (.cells #[.int .i64 0, .int .i64 0, .int .i64 0] 121)) w2 := hb1.trans (b2.mono hb1.size)
        have z12 : w.heap.size < w2.heap.size := by have := b12.size; simp at this; omega
        obtain ⟨bb, off, rfl, hbb, gc⟩ := FS_get (HS.out _ (b2.alloc b2.size (.cells #[.int .i64 0, .int .i64 0, .int .i64 0] 121))) (i := 0) h0L
        simp only [Nat.add_zero] at gc
        have i1 : (0 : Int) < (L.length : Int) := by omega
        rw [HX.out] at gc
        have tU : gotB.toList = [103, 111, 116] := by rw [ByteArray.toList_eq]; rfl
        obtain ⟨nb, noff, hadr, hnb, g0⟩ := o2.sl.at_ (k := 0) (by simp)
        obtain ⟨nb', noff', hadr', _, g1⟩ := o2.sl.at_ (k := 1) (by simp)
        rw [hadr] at hadr'
        simp at hadr'
        obtain ⟨rfl, rfl⟩ := hadr'
        subst hadr
        simp only [Nat.add_zero, List.getElem_cons_zero, List.getElem_cons_succ] at g0 g1
        have hbX : Below (w.alloc (.cells #[.int .i64 0, .int .i64 0, .int .i64 0] 121)).heap.size (w.alloc (.cells #[.int .i64 0, .int .i64 0, .int .i64 0] 121)) (w2.alloc (.cells #[.int .i64 2, .int .i64 n0, .int .i64 n1] 121)) := (b12.alloc b12.size _)
        have hne : ¬ w2.heap.size = nb := by omega
        have hne2 : ¬ nb = w2.heap.size := by omega
        have HSX := Lib.hid (HSV.out _ (bx.trans (hbX.mono bx.size)))
        have x0 : (w2.alloc (.cells #[.int .i64 2, .int .i64 n0, .int .i64 n1] 121)).cell? ⟨w2.heap.size, 0, none⟩ = some (.int .i64 2) := by simp [go_sem]
        have x1 : (w2.alloc (.cells #[.int .i64 2, .int .i64 n0, .int .i64 n1] 121)).cell? ⟨w2.heap.size, 1, none⟩ = some (.int .i64 n0) := by simp [go_sem]
        have x2 : (w2.alloc (.cells #[.int .i64 2, .int .i64 n0, .int .i64 n1] 121)).cell? ⟨w2.heap.size, 2, none⟩ = some (.int .i64 n1) := by simp [go_sem]
        have X := Lib.hid (And.intro x0 (And.intro x1 x2))
        clear x0 x1 x2
        clear o2
        go_upto_region 16 with (fail)
        generalize hW : (w2.alloc (.cells #[.int .i64 2, .int .i64 n0, .int .i64 n1] 121)) = W at hbX HSX X ⊢
        have HW := Lib.hid hW
        clear hW
        have k0 := fun d os => cell_regrown X.out.1 d os
        have k1 := fun d os => cell_regrown X.out.2.1 d os
        have k2 := fun d os => cell_regrown X.out.2.2 d os
        refine wp_region_below_tail 4 (by kernel_rfl) (by kernel_rfl) ?_
        simp only [List.take_succ_cons, List.take_zero, List.drop_succ_cons, List.drop_zero]
        repeat (first | go_big_quiet_skip | quiet_step (exact Calls.regrown_of (l09Record_any b o st t bs sm wk 2 n0 n1 _ (HSX.out.below (below_regrown _ _ _)) h3 h4 h1 h2)))
        refine wpQuiet_nil ?_
        intro _ hw'
        obtain ⟨⟨dq, osq⟩, hw''⟩ := hw'
        subst hw''
        have bq := hbX.trans ((below_regrown W dq osq).mono hbX.size)
        generalize grow (redrawn W dq) osq = wq at bq ⊢
        obtain ⟨⟨r0, r1, r2⟩, f0, f1, f2⟩ := QW.out _ bq
        have HP := Lib.hid (show parseOk st sm 2 [n0, n1] true = recOk st sm 2 n0 n1 from parse_go (by simp))
        clear k0 k1 k2
        go_wp2
        refine bodyPost_ret (v := .tuple #[recV (2, n0, n1), .bool (recOk st sm 2 n0 n1)]) (by simp [results, Try.results134, go_sem, recV, r0, r1, r2]) rfl ⟨?_, ?_⟩
        · refine ⟨(2, n0, n1), ?_, ?_⟩
          · rw [HL.out, HN.out, HK.out]
            exact congrArg (fun b => Ending.returned (.tuple #[recV (2, n0, n1), .bool b])) HP.out.symm
          · intro _
            rw [HL.out, HN.out, HK.out]
            rfl
        · have hbq := bx.trans (bq.mono bx.size)
          exact ((hbq.setCell (Nat.le_refl _) _).setCell (Nat.le_refl _) _).setCell (Nat.le_refl _) _
      · have HLN := Lib.hid (show ¬ (n.length = 1 ∨ n.length = 2) by omega)
        by_cases h0 : n.length < 1
        · clear hl hl2
          go_enter Try.func134, Try.ntmps134
          go_wp2_with fail
          refine (l01Words_any line 32 _ hs).mono ?_
          rintro e w1 ⟨v1, rfl, o1, b1⟩
          rw [HL.out] at o1
          have hb1 := b1
          have HS := Lib.hid (fun W (h : Below w1.heap.size w1 W) => o1.sl.below h)
          obtain ⟨la, lc, rfl, lm1, lm2, _⟩ := id o1.sl
          unfold maxLen at lm2
          clear o1 b1
          go_wp2_with fail
          refine (l09Numbers_any 1 _ (HS.out _ (Below.refl _ _)) (by omega) (by omega) (fun y hy => by have := HSZ.out y hy; omega)).mono ?_
          rintro e w2 ⟨v2, rfl, o2, b2⟩
          rw [HN.out] at o2 ⊢
          unfold tupVB
          obtain ⟨na, nc, rfl, nl1, nl2, _⟩ := id o2.sl
          unfold maxLen at nl2
          have b12 : Below (w.alloc (.cells #[.int .i64 0, .int .i64 0, .int .i64 0] 121)).heap.size (w.alloc (.cells #[.int .i64 0, .int .i64 0, .int .i64 0] 121)) w2 := hb1.trans (b2.mono hb1.size)
          have z12 : w.heap.size < w2.heap.size := by have := b12.size; simp at this; omega
          obtain ⟨bb, off, rfl, hbb, gc⟩ := FS_get (HS.out _ (b2.alloc b2.size (.cells #[.int .i64 0, .int .i64 0, .int .i64 0] 121))) (i := 0) h0L
          simp only [Nat.add_zero] at gc
          have i1 : (0 : Int) < (L.length : Int) := by omega
          rw [HX.out] at gc
          have tU : gotB.toList = [103, 111, 116] := by rw [ByteArray.toList_eq]; rfl
          have hbX : Below (w.alloc (.cells #[.int .i64 0, .int .i64 0, .int .i64 0] 121)).heap.size (w.alloc (.cells #[.int .i64 0, .int .i64 0, .int .i64 0] 121)) (w2.alloc (.cells #[.int .i64 2, .int .i64 0, .int .i64 0] 121)) := (b12.alloc b12.size _)
          obtain ⟨⟨r0, r1, r2⟩, f0, f1, f2⟩ := QW.out _ b12
          have HP := Lib.hid (show parseOk st sm 2 n true = false from parse_len HLN.out)
          go_wp2
          refine bodyPost_ret (v := .tuple #[recV (2, 0, 0), .bool false]) (by simp [results, Try.results134, go_sem, recV, r0, r1, r2, z12]) rfl ⟨?_, ?_⟩
          · refine ⟨(2, 0, 0), ?_, ?_⟩
            · rw [HL.out, HN.out, HK.out]
              exact congrArg (fun b => Ending.returned (.tuple #[recV (2, 0, 0), .bool b])) HP.out.symm
            · intro hp
              rw [HL.out, HN.out, HK.out] at hp
              exact absurd (hp.symm.trans HP.out) (by decide)
          · have hbq := bx.trans (b12.mono bx.size)
            exact (((hbq.setCell (Nat.le_refl _) _).setCell (Nat.le_refl _) _).setCell (Nat.le_refl _) _).alloc (by simp <;> omega) _
        · have il : ¬ (n.length : Int) < 1 := by omega
          have il2 : (2 : Int) < (n.length : Int) := by omega
          clear hl hl2 h0
          go_enter Try.func134, Try.ntmps134
          go_wp2_with fail
          refine (l01Words_any line 32 _ hs).mono ?_
          rintro e w1 ⟨v1, rfl, o1, b1⟩
          rw [HL.out] at o1
          have hb1 := b1
          have HS := Lib.hid (fun W (h : Below w1.heap.size w1 W) => o1.sl.below h)
          obtain ⟨la, lc, rfl, lm1, lm2, _⟩ := id o1.sl
          unfold maxLen at lm2
          clear o1 b1
          go_wp2_with fail
          refine (l09Numbers_any 1 _ (HS.out _ (Below.refl _ _)) (by omega) (by omega) (fun y hy => by have := HSZ.out y hy; omega)).mono ?_
          rintro e w2 ⟨v2, rfl, o2, b2⟩
          rw [HN.out] at o2 ⊢
          unfold tupVB
          obtain ⟨na, nc, rfl, nl1, nl2, _⟩ := id o2.sl
          unfold maxLen at nl2
          have b12 : Below (w.alloc (.cells #[.int .i64 0, .int .i64 0, .int .i64 0] 121)).heap.size (w.alloc (.cells #[.int .i64 0, .int .i64 0, .int .i64 0] 121)) w2 := hb1.trans (b2.mono hb1.size)
          have z12 : w.heap.size < w2.heap.size := by have := b12.size; simp at this; omega
          obtain ⟨bb, off, rfl, hbb, gc⟩ := FS_get (HS.out _ (b2.alloc b2.size (.cells #[.int .i64 0, .int .i64 0, .int .i64 0] 121))) (i := 0) h0L
          simp only [Nat.add_zero] at gc
          have i1 : (0 : Int) < (L.length : Int) := by omega
          rw [HX.out] at gc
          have tU : gotB.toList = [103, 111, 116] := by rw [ByteArray.toList_eq]; rfl
          have hbX : Below (w.alloc (.cells #[.int .i64 0, .int .i64 0, .int .i64 0] 121)).heap.size (w.alloc (.cells #[.int .i64 0, .int .i64 0, .int .i64 0] 121)) (w2.alloc (.cells #[.int .i64 2, .int .i64 0, .int .i64 0] 121)) := (b12.alloc b12.size _)
          obtain ⟨⟨r0, r1, r2⟩, f0, f1, f2⟩ := QW.out _ b12
          have HP := Lib.hid (show parseOk st sm 2 n true = false from parse_len HLN.out)
          go_wp2
          refine bodyPost_ret (v := .tuple #[recV (2, 0, 0), .bool false]) (by simp [results, Try.results134, go_sem, recV, r0, r1, r2, z12]) rfl ⟨?_, ?_⟩
          · refine ⟨(2, 0, 0), ?_, ?_⟩
            · rw [HL.out, HN.out, HK.out]
              exact congrArg (fun b => Ending.returned (.tuple #[recV (2, 0, 0), .bool b])) HP.out.symm
            · intro hp
              rw [HL.out, HN.out, HK.out] at hp
              exact absurd (hp.symm.trans HP.out) (by decide)
          · have hbq := bx.trans (b12.mono bx.size)
            exact (((hbq.setCell (Nat.le_refl _) _).setCell (Nat.le_refl _) _).setCell (Nat.le_refl _) _).alloc (by simp <;> omega) _
end Go.Proofs.Ytijpkcdalmlaiaa
namespace Go.Proofs.Ytijpkcdalmlaiaa
open Go.RowKit Go.Sort
set_option maxHeartbeats 8000000 in
theorem l09Parse_out {u : Value} (line : ByteArray) (b o : Nat) (st t bs sm wk : Int) (w : World) (hc : ServAt w b o st t u bs sm wk) (h3 : 1 ≤ sm) (h4 : sm ≤ 8) (h1 : 1 ≤ st) (h2 : st ≤ 6) (hs : line.size ≤ 1048576) (hx : (cuts line 32).getD 0 ⟨#[]⟩ = outB) :
    Calls Try.prog 134 #[.pointer (some ⟨b, o, none⟩), .string line] w fun e w' => ParseP st sm line e ∧ Below w.heap.size w w' := by
  have hcl := cuts_lens line 32
  have hc1 := cuts_len line 32
  have hcs := hcl.2
  have hcl1 := hcl.1
  generalize hL : cuts line 32 = L at hc1 hcs hcl1 hx
  have HL := Lib.hid hL
  have HSZ := Lib.hid hcs
  have h0L : 0 < L.length := by omega
  have hx0 : L.getD 0 ⟨#[]⟩ = L[0]'h0L := by simp [h0L]
  rw [hx0] at hx
  have HX := Lib.hid hx
  generalize hn : numsG (L.drop 1) [] = R
  obtain ⟨n, okn⟩ := R
  have HN := Lib.hid hn
  clear hL hcl hcs hx0 hn hx
  have bx : Below w.heap.size w (w.alloc (.cells #[.int .i64 0, .int .i64 0, .int .i64 0] 121)) := (Below.refl _ _).alloc (Nat.le_refl _) _
  have QW := Lib.hid (fun W (h : Below (w.alloc (.cells #[.int .i64 0, .int .i64 0, .int .i64 0] 121)).heap.size (w.alloc (.cells #[.int .i64 0, .int .i64 0, .int .i64 0] 121)) W) =>
    show (W.cell? ⟨w.heap.size, 0, none⟩ = some (.int .i64 0) ∧ W.cell? ⟨w.heap.size, 1, none⟩ = some (.int .i64 0) ∧ W.cell? ⟨w.heap.size, 2, none⟩ = some (.int .i64 0)) ∧ W.frozen? ⟨w.heap.size, 0, none⟩ = false ∧ W.frozen? ⟨w.heap.size, 1, none⟩ = false ∧ W.frozen? ⟨w.heap.size, 2, none⟩ = false from by
      have a0 := h.cell (p := ⟨w.heap.size, 0, none⟩) (by simp)
      have a1 := h.cell (p := ⟨w.heap.size, 1, none⟩) (by simp)
      have a2 := h.cell (p := ⟨w.heap.size, 2, none⟩) (by simp)
      have f0 := h.frozen (p := ⟨w.heap.size, 0, none⟩) (by simp)
      have f1 := h.frozen (p := ⟨w.heap.size, 1, none⟩) (by simp)
      have f2 := h.frozen (p := ⟨w.heap.size, 2, none⟩) (by simp)
      simp [go_sem] at a0 a1 a2 f0 f1 f2
      exact ⟨⟨a0, a1, a2⟩, f0, f1, f2⟩)
  have HSV := Lib.hid (fun W (h : Below w.heap.size w W) => hc.below h)
  clear hc
  have hk : kindW (L.getD 0 ⟨#[]⟩) = 3 := by rw [show L.getD 0 ⟨#[]⟩ = L[0]'h0L by simp [h0L], HX.out]; decide
  have HK := Lib.hid hk
  clear hk
  cases okn
  · skip
    go_enter Try.func134, Try.ntmps134
    go_wp2_with fail
    refine (l01Words_any line 32 _ hs).mono ?_
    rintro e w1 ⟨v1, rfl, o1, b1⟩
    rw [HL.out] at o1
    have hb1 := b1
    have HS := Lib.hid (fun W (h : Below w1.heap.size w1 W) => o1.sl.below h)
    obtain ⟨la, lc, rfl, lm1, lm2, _⟩ := id o1.sl
    unfold maxLen at lm2
    clear o1 b1
    go_wp2_with fail
    refine (l09Numbers_any 1 _ (HS.out _ (Below.refl _ _)) (by omega) (by omega) (fun y hy => by have := HSZ.out y hy; omega)).mono ?_
    rintro e w2 ⟨v2, rfl, o2, b2⟩
    rw [HN.out] at o2 ⊢
    unfold tupVB
    obtain ⟨na, nc, rfl, nl1, nl2, _⟩ := id o2.sl
    unfold maxLen at nl2
    have b12 : Below (w.alloc (.cells #[.int .i64 0, .int .i64 0, .int .i64 0] 121)).heap.size (w.alloc (.cells #[.int .i64 0, .int .i64 0, .int .i64 0] 121)) w2 := hb1.trans (b2.mono hb1.size)
    have z12 : w.heap.size < w2.heap.size := by have := b12.size; simp at this; omega
    obtain ⟨bb, off, rfl, hbb, gc⟩ := FS_get (HS.out _ (b2.alloc b2.size (.cells #[.int .i64 0, .int .i64 0, .int .i64 0] 121))) (i := 0) h0L
    simp only [Nat.add_zero] at gc
    have i1 : (0 : Int) < (L.length : Int) := by omega
    rw [HX.out] at gc
    have tU : outB.toList = [111, 117, 116] := by rw [ByteArray.toList_eq]; rfl
    have hbX : Below (w.alloc (.cells #[.int .i64 0, .int .i64 0, .int .i64 0] 121)).heap.size (w.alloc (.cells #[.int .i64 0, .int .i64 0, .int .i64 0] 121)) (w2.alloc (.cells #[.int .i64 3, .int .i64 0, .int .i64 0] 121)) := (b12.alloc b12.size _)
    obtain ⟨⟨r0, r1, r2⟩, f0, f1, f2⟩ := QW.out _ b12
    have HP := Lib.hid (show parseOk st sm 3 n false = false from rfl)
    go_wp2
    refine bodyPost_ret (v := .tuple #[recV (3, 0, 0), .bool false]) (by simp [results, Try.results134, go_sem, recV, r0, r1, r2, z12]) rfl ⟨?_, ?_⟩
    · refine ⟨(3, 0, 0), ?_, ?_⟩
      · rw [HL.out, HN.out, HK.out]
        exact congrArg (fun b => Ending.returned (.tuple #[recV (3, 0, 0), .bool b])) HP.out.symm
      · intro hp
        rw [HL.out, HN.out, HK.out] at hp
        exact absurd (hp.symm.trans HP.out) (by decide)
    · have hbq := bx.trans (b12.mono bx.size)
      exact (((hbq.setCell (Nat.le_refl _) _).setCell (Nat.le_refl _) _).setCell (Nat.le_refl _) _).alloc (by simp <;> omega) _
  · by_cases hl : n.length = 1
    · obtain ⟨n0, rfl⟩ : ∃ n0, n = [n0] := by
        match n, hl with
        | [a], _ => exact ⟨a, rfl⟩
      clear hl
      go_enter Try.func134, Try.ntmps134
      go_wp2_with fail
      refine (l01Words_any line 32 _ hs).mono ?_
      rintro e w1 ⟨v1, rfl, o1, b1⟩
      rw [HL.out] at o1
      have hb1 := b1
      have HS := Lib.hid (fun W (h : Below w1.heap.size w1 W) => o1.sl.below h)
      obtain ⟨la, lc, rfl, lm1, lm2, _⟩ := id o1.sl
      unfold maxLen at lm2
      clear o1 b1
      go_wp2_with fail
      refine (l09Numbers_any 1 _ (HS.out _ (Below.refl _ _)) (by omega) (by omega) (fun y hy => by have := HSZ.out y hy; omega)).mono ?_
      rintro e w2 ⟨v2, rfl, o2, b2⟩
      rw [HN.out] at o2 ⊢
      unfold tupVB
      obtain ⟨na, nc, rfl, nl1, nl2, _⟩ := id o2.sl
      unfold maxLen at nl2
      have b12 : Below (w.alloc (.cells #[.int .i64 0, .int .i64 0, .int .i64 0] 121)).heap.size (w.alloc (.cells #[.int .i64 0, .int .i64 0, .int .i64 0] 121)) w2 := hb1.trans (b2.mono hb1.size)
      have z12 : w.heap.size < w2.heap.size := by have := b12.size; simp at this; omega
      obtain ⟨bb, off, rfl, hbb, gc⟩ := FS_get (HS.out _ (b2.alloc b2.size (.cells #[.int .i64 0, .int .i64 0, .int .i64 0] 121))) (i := 0) h0L
      simp only [Nat.add_zero] at gc
      have i1 : (0 : Int) < (L.length : Int) := by omega
      rw [HX.out] at gc
      have tU : outB.toList = [111, 117, 116] := by rw [ByteArray.toList_eq]; rfl
      obtain ⟨nb, noff, rfl, hnb, g0⟩ := o2.sl.at_ (k := 0) (by simp)
      simp only [Nat.add_zero, List.getElem_cons_zero] at g0
      have hbX : Below (w.alloc (.cells #[.int .i64 0, .int .i64 0, .int .i64 0] 121)).heap.size (w.alloc (.cells #[.int .i64 0, .int .i64 0, .int .i64 0] 121)) (w2.alloc (.cells #[.int .i64 3, .int .i64 n0, .int .i64 0] 121)) := (b12.alloc b12.size _)
      have hne : ¬ w2.heap.size = nb := by omega
      have hne2 : ¬ nb = w2.heap.size := by omega
      have HSX := Lib.hid (HSV.out _ (bx.trans (hbX.mono bx.size)))
      have x0 : (w2.alloc (.cells #[.int .i64 3, .int .i64 n0, .int .i64 0] 121)).cell? ⟨w2.heap.size, 0, none⟩ = some (.int .i64 3) := by simp [go_sem]
      have x1 : (w2.alloc (.cells #[.int .i64 3, .int .i64 n0, .int .i64 0] 121)).cell? ⟨w2.heap.size, 1, none⟩ = some (.int .i64 n0) := by simp [go_sem]
      have x2 : (w2.alloc (.cells #[.int .i64 3, .int .i64 n0, .int .i64 0] 121)).cell? ⟨w2.heap.size, 2, none⟩ = some (.int .i64 0) := by simp [go_sem]
      have X := Lib.hid (And.intro x0 (And.intro x1 x2))
      clear x0 x1 x2
      clear o2
      go_upto_region 16 with (fail)
      generalize hW : (w2.alloc (.cells #[.int .i64 3, .int .i64 n0, .int .i64 0] 121)) = W at hbX HSX X ⊢
      have HW := Lib.hid hW
      clear hW
      have k0 := fun d os => cell_regrown X.out.1 d os
      have k1 := fun d os => cell_regrown X.out.2.1 d os
      have k2 := fun d os => cell_regrown X.out.2.2 d os
      refine wp_region_below_tail 4 (by kernel_rfl) (by kernel_rfl) ?_
      simp only [List.take_succ_cons, List.take_zero, List.drop_succ_cons, List.drop_zero]
      repeat (first | go_big_quiet_skip | quiet_step (exact Calls.regrown_of (l09Record_any b o st t bs sm wk 3 n0 0 _ (HSX.out.below (below_regrown _ _ _)) h3 h4 h1 h2)))
      refine wpQuiet_nil ?_
      intro _ hw'
      obtain ⟨⟨dq, osq⟩, hw''⟩ := hw'
      subst hw''
      have bq := hbX.trans ((below_regrown W dq osq).mono hbX.size)
      generalize grow (redrawn W dq) osq = wq at bq ⊢
      obtain ⟨⟨r0, r1, r2⟩, f0, f1, f2⟩ := QW.out _ bq
      have HP := Lib.hid (show parseOk st sm 3 [n0] true = recOk st sm 3 n0 0 from parse_go (by simp))
      clear k0 k1 k2
      go_wp2
      refine bodyPost_ret (v := .tuple #[recV (3, n0, 0), .bool (recOk st sm 3 n0 0)]) (by simp [results, Try.results134, go_sem, recV, r0, r1, r2]) rfl ⟨?_, ?_⟩
      · refine ⟨(3, n0, 0), ?_, ?_⟩
        · rw [HL.out, HN.out, HK.out]
          exact congrArg (fun b => Ending.returned (.tuple #[recV (3, n0, 0), .bool b])) HP.out.symm
        · intro _
          rw [HL.out, HN.out, HK.out]
          rfl
      · have hbq := bx.trans (bq.mono bx.size)
        exact ((hbq.setCell (Nat.le_refl _) _).setCell (Nat.le_refl _) _).setCell (Nat.le_refl _) _
    · by_cases hl2 : n.length = 2
      · have e1 : ((n.length : Int) == 1) = false := by simp; omega
        have HLN := Lib.hid hl2
        have il : ¬ (n.length : Int) < 1 := by omega
        have il2 : ¬ (2 : Int) < (n.length : Int) := by omega
        clear hl hl2
        go_enter Try.func134, Try.ntmps134
        go_wp2_with fail
        refine (l01Words_any line 32 _ hs).mono ?_
        rintro e w1 ⟨v1, rfl, o1, b1⟩
        rw [HL.out] at o1
        have hb1 := b1
        have HS := Lib.hid (fun W (h : Below w1.heap.size w1 W) => o1.sl.below h)
        obtain ⟨la, lc, rfl, lm1, lm2, _⟩ := id o1.sl
        unfold maxLen at lm2
        clear o1 b1
        go_wp2_with fail
        refine (l09Numbers_any 1 _ (HS.out _ (Below.refl _ _)) (by omega) (by omega) (fun y hy => by have := HSZ.out y hy; omega)).mono ?_
        rintro e w2 ⟨v2, rfl, o2, b2⟩
        rw [HN.out] at o2 ⊢
        unfold tupVB
        obtain ⟨na, nc, rfl, nl1, nl2, _⟩ := id o2.sl
        unfold maxLen at nl2
        have b12 : Below (w.alloc (.cells #[.int .i64 0, .int .i64 0, .int .i64 0] 121)).heap.size (w.alloc (.cells #[.int .i64 0, .int .i64 0, .int .i64 0] 121)) w2 := hb1.trans (b2.mono hb1.size)
        have z12 : w.heap.size < w2.heap.size := by have := b12.size; simp at this; omega
        obtain ⟨bb, off, rfl, hbb, gc⟩ := FS_get (HS.out _ (b2.alloc b2.size (.cells #[.int .i64 0, .int .i64 0, .int .i64 0] 121))) (i := 0) h0L
        simp only [Nat.add_zero] at gc
        have i1 : (0 : Int) < (L.length : Int) := by omega
        rw [HX.out] at gc
        have tU : outB.toList = [111, 117, 116] := by rw [ByteArray.toList_eq]; rfl
        have hbX : Below (w.alloc (.cells #[.int .i64 0, .int .i64 0, .int .i64 0] 121)).heap.size (w.alloc (.cells #[.int .i64 0, .int .i64 0, .int .i64 0] 121)) (w2.alloc (.cells #[.int .i64 3, .int .i64 0, .int .i64 0] 121)) := (b12.alloc b12.size _)
        obtain ⟨⟨r0, r1, r2⟩, f0, f1, f2⟩ := QW.out _ b12
        have HP := Lib.hid (show parseOk st sm 3 n true = false from parse_mix (.inr ⟨HLN.out, by decide⟩))
        go_wp2
        refine bodyPost_ret (v := .tuple #[recV (3, 0, 0), .bool false]) (by simp [results, Try.results134, go_sem, recV, r0, r1, r2, z12]) rfl ⟨?_, ?_⟩
        · refine ⟨(3, 0, 0), ?_, ?_⟩
          · rw [HL.out, HN.out, HK.out]
            exact congrArg (fun b => Ending.returned (.tuple #[recV (3, 0, 0), .bool b])) HP.out.symm
          · intro hp
            rw [HL.out, HN.out, HK.out] at hp
            exact absurd (hp.symm.trans HP.out) (by decide)
        · have hbq := bx.trans (b12.mono bx.size)
          exact (((hbq.setCell (Nat.le_refl _) _).setCell (Nat.le_refl _) _).setCell (Nat.le_refl _) _).alloc (by simp <;> omega) _
      · have HLN := Lib.hid (show ¬ (n.length = 1 ∨ n.length = 2) by omega)
        by_cases h0 : n.length < 1
        · clear hl hl2
          go_enter Try.func134, Try.ntmps134
          go_wp2_with fail
          refine (l01Words_any line 32 _ hs).mono ?_
          rintro e w1 ⟨v1, rfl, o1, b1⟩
          rw [HL.out] at o1
          have hb1 := b1
          have HS := Lib.hid (fun W (h : Below w1.heap.size w1 W) => o1.sl.below h)
          obtain ⟨la, lc, rfl, lm1, lm2, _⟩ := id o1.sl
          unfold maxLen at lm2
          clear o1 b1
          go_wp2_with fail
          refine (l09Numbers_any 1 _ (HS.out _ (Below.refl _ _)) (by omega) (by omega) (fun y hy => by have := HSZ.out y hy; omega)).mono ?_
          rintro e w2 ⟨v2, rfl, o2, b2⟩
          rw [HN.out] at o2 ⊢
          unfold tupVB
          obtain ⟨na, nc, rfl, nl1, nl2, _⟩ := id o2.sl
          unfold maxLen at nl2
          have b12 : Below (w.alloc (.cells #[.int .i64 0, .int .i64 0, .int .i64 0] 121)).heap.size (w.alloc (.cells #[.int .i64 0, .int .i64 0, .int .i64 0] 121)) w2 := hb1.trans (b2.mono hb1.size)
          have z12 : w.heap.size < w2.heap.size := by have := b12.size; simp at this; omega
          obtain ⟨bb, off, rfl, hbb, gc⟩ := FS_get (HS.out _ (b2.alloc b2.size (.cells #[.int .i64 0, .int .i64 0, .int .i64 0] 121))) (i := 0) h0L
          simp only [Nat.add_zero] at gc
          have i1 : (0 : Int) < (L.length : Int) := by omega
          rw [HX.out] at gc
          have tU : outB.toList = [111, 117, 116] := by rw [ByteArray.toList_eq]; rfl
          have hbX : Below (w.alloc (.cells #[.int .i64 0, .int .i64 0, .int .i64 0] 121)).heap.size (w.alloc (.cells #[.int .i64 0, .int .i64 0, .int .i64 0] 121)) (w2.alloc (.cells #[.int .i64 3, .int .i64 0, .int .i64 0] 121)) := (b12.alloc b12.size _)
          obtain ⟨⟨r0, r1, r2⟩, f0, f1, f2⟩ := QW.out _ b12
          have HP := Lib.hid (show parseOk st sm 3 n true = false from parse_len HLN.out)
          go_wp2
          refine bodyPost_ret (v := .tuple #[recV (3, 0, 0), .bool false]) (by simp [results, Try.results134, go_sem, recV, r0, r1, r2, z12]) rfl ⟨?_, ?_⟩
          · refine ⟨(3, 0, 0), ?_, ?_⟩
            · rw [HL.out, HN.out, HK.out]
              exact congrArg (fun b => Ending.returned (.tuple #[recV (3, 0, 0), .bool b])) HP.out.symm
            · intro hp
              rw [HL.out, HN.out, HK.out] at hp
              exact absurd (hp.symm.trans HP.out) (by decide)
          · have hbq := bx.trans (b12.mono bx.size)
            exact (((hbq.setCell (Nat.le_refl _) _).setCell (Nat.le_refl _) _).setCell (Nat.le_refl _) _).alloc (by simp <;> omega) _
        · have il : ¬ (n.length : Int) < 1 := by omega
          have il2 : (2 : Int) < (n.length : Int) := by omega
          clear hl hl2 h0
          go_enter Try.func134, Try.ntmps134
          go_wp2_with fail
          refine (l01Words_any line 32 _ hs).mono ?_
          rintro e w1 ⟨v1, rfl, o1, b1⟩
          rw [HL.out] at o1
          have hb1 := b1
          have HS := Lib.hid (fun W (h : Below w1.heap.size w1 W) => o1.sl.below h)
          obtain ⟨la, lc, rfl, lm1, lm2, _⟩ := id o1.sl
          unfold maxLen at lm2
          clear o1 b1
          go_wp2_with fail
          refine (l09Numbers_any 1 _ (HS.out _ (Below.refl _ _)) (by omega) (by omega) (fun y hy => by have := HSZ.out y hy; omega)).mono ?_
          rintro e w2 ⟨v2, rfl, o2, b2⟩
          rw [HN.out] at o2 ⊢
          unfold tupVB
          obtain ⟨na, nc, rfl, nl1, nl2, _⟩ := id o2.sl
          unfold maxLen at nl2
          have b12 : Below (w.alloc (.cells #[.int .i64 0, .int .i64 0, .int .i64 0] 121)).heap.size (w.alloc (.cells #[.int .i64 0, .int .i64 0, .int .i64 0] 121)) w2 := hb1.trans (b2.mono hb1.size)
          have z12 : w.heap.size < w2.heap.size := by have := b12.size; simp at this; omega
          obtain ⟨bb, off, rfl, hbb, gc⟩ := FS_get (HS.out _ (b2.alloc b2.size (.cells #[.int .i64 0, .int .i64 0, .int .i64 0] 121))) (i := 0) h0L
          simp only [Nat.add_zero] at gc
          have i1 : (0 : Int) < (L.length : Int) := by omega
          rw [HX.out] at gc
          have tU : outB.toList = [111, 117, 116] := by rw [ByteArray.toList_eq]; rfl
          have hbX : Below (w.alloc (.cells #[.int .i64 0, .int .i64 0, .int .i64 0] 121)).heap.size (w.alloc (.cells #[.int .i64 0, .int .i64 0, .int .i64 0] 121)) (w2.alloc (.cells #[.int .i64 3, .int .i64 0, .int .i64 0] 121)) := (b12.alloc b12.size _)
          obtain ⟨⟨r0, r1, r2⟩, f0, f1, f2⟩ := QW.out _ b12
          have HP := Lib.hid (show parseOk st sm 3 n true = false from parse_len HLN.out)
          go_wp2
          refine bodyPost_ret (v := .tuple #[recV (3, 0, 0), .bool false]) (by simp [results, Try.results134, go_sem, recV, r0, r1, r2, z12]) rfl ⟨?_, ?_⟩
          · refine ⟨(3, 0, 0), ?_, ?_⟩
            · rw [HL.out, HN.out, HK.out]
              exact congrArg (fun b => Ending.returned (.tuple #[recV (3, 0, 0), .bool b])) HP.out.symm
            · intro hp
              rw [HL.out, HN.out, HK.out] at hp
              exact absurd (hp.symm.trans HP.out) (by decide)
          · have hbq := bx.trans (b12.mono bx.size)
            exact (((hbq.setCell (Nat.le_refl _) _).setCell (Nat.le_refl _) _).setCell (Nat.le_refl _) _).alloc (by simp <;> omega) _
end Go.Proofs.Ytijpkcdalmlaiaa
