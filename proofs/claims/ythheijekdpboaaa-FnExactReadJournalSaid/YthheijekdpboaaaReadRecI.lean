/-
  The program's reading of a line of a journal.
-/
import Derived.Test.YthheijekdpboaaaReadJ
import Derived.Test.YthheijekdpboaaaQuietTail
namespace Go.Proofs.Ythheijekdpboaaa
open Go.RowKit Go.Sort
def wordK : Nat → ByteArray
  | 1 => upB
  | 2 => gotB
  | 3 => outB
  | _ => ⟨#[]⟩
def MatchK (line : ByteArray) (k : Nat) : Prop := (behindG line (wordK k)).2 = true ∧ (behindG line (wordK k)).1.length = if k = 3 then 1 else 2
theorem behind_yes {line word : ByteArray} (h : (behindG line word).2 = true) : (cuts line 32).getD 0 ⟨#[]⟩ = word ∧ behindG line word = readsG ((cuts line 32).drop 1) [] := by
  unfold behindG at h ⊢
  split at h
  · rename_i h2; exact ⟨h2, if_pos h2⟩
  · simp at h
theorem match_rec {line : ByteArray} {k : Nat} (h : MatchK line k) (hk : k = 1 ∨ k = 2) : readRecR line = ((k : Int), (behindG line (wordK k)).1.getD 0 0, (behindG line (wordK k)).1.getD 1 0) := by
  obtain ⟨h1, h2⟩ := h
  obtain ⟨h3, h4⟩ := behind_yes h1
  rw [h4] at h1 h2 ⊢
  unfold readRecR recPick
  rw [h3, if_pos h1]
  rcases hk with rfl | rfl
  · rw [if_pos ⟨rfl, h2⟩]; rfl
  · rw [if_neg (by rintro ⟨e, _⟩; revert e; decide), if_pos ⟨rfl, h2⟩]; rfl
theorem match_out {line : ByteArray} (h : MatchK line 3) : readRecR line = (3, (behindG line (wordK 3)).1.getD 0 0, 0) := by
  obtain ⟨h1, h2⟩ := h
  obtain ⟨h3, h4⟩ := behind_yes h1
  rw [h4] at h1 h2 ⊢
  unfold readRecR recPick
  rw [h3, if_pos h1]
  rw [if_neg (by rintro ⟨e, _⟩; revert e; decide), if_neg (by rintro ⟨e, _⟩; revert e; decide), if_pos ⟨rfl, h2⟩]
theorem match_none {line : ByteArray} (h1 : ¬ MatchK line 1) (h2 : ¬ MatchK line 2) (h3 : ¬ MatchK line 3) : readRecR line = (0, 0, 0) := by
  have key : ∀ k, (cuts line 32).getD 0 ⟨#[]⟩ = wordK k → behindG line (wordK k) = readsG ((cuts line 32).drop 1) [] := by
    intro k e; unfold behindG; rw [if_pos e]
  unfold readRecR recPick
  split
  · rename_i hok
    split
    · rename_i h; exact absurd ⟨by rw [key 1 h.1]; exact hok, by rw [key 1 h.1]; exact h.2⟩ h1
    · split
      · rename_i h; exact absurd ⟨by rw [key 2 h.1]; exact hok, by rw [key 2 h.1]; exact h.2⟩ h2
      · split
        · rename_i h; exact absurd ⟨by rw [key 3 h.1]; exact hok, by rw [key 3 h.1]; exact h.2⟩ h3
        · rfl
  · rfl
def recV (r : Int × Int × Int) : Value := .agg #[.int .i64 r.1, .int .i64 r.2.1, .int .i64 r.2.2]
set_option maxHeartbeats 8000000 in
theorem readRecord_any (line : ByteArray) (w : World) (hs : line.size ≤ 1048576) :
    Calls Try.prog 112 #[.string line] w fun e w' => e = .returned (recV (readRecR line)) ∧ Below w.heap.size w w' := by
  have bx : Below w.heap.size w (w.alloc (.cells #[.int .i64 0, .int .i64 0, .int .i64 0] 44)) := (Below.refl _ _).alloc (Nat.le_refl _) _
  have QW := Lib.hid (fun W (h : Below (w.alloc (.cells #[.int .i64 0, .int .i64 0, .int .i64 0] 44)).heap.size (w.alloc (.cells #[.int .i64 0, .int .i64 0, .int .i64 0] 44)) W) =>
    show (W.cell? ⟨w.heap.size, 0, none⟩ = some (.int .i64 0) ∧ W.cell? ⟨w.heap.size, 1, none⟩ = some (.int .i64 0) ∧ W.cell? ⟨w.heap.size, 2, none⟩ = some (.int .i64 0)) ∧ W.frozen? ⟨w.heap.size, 0, none⟩ = false ∧ W.frozen? ⟨w.heap.size, 1, none⟩ = false ∧ W.frozen? ⟨w.heap.size, 2, none⟩ = false from by
      have a0 := h.cell (p := ⟨w.heap.size, 0, none⟩) (by simp)
      have a1 := h.cell (p := ⟨w.heap.size, 1, none⟩) (by simp)
      have a2 := h.cell (p := ⟨w.heap.size, 2, none⟩) (by simp)
      have f0 := h.frozen (p := ⟨w.heap.size, 0, none⟩) (by simp)
      have f1 := h.frozen (p := ⟨w.heap.size, 1, none⟩) (by simp)
      have f2 := h.frozen (p := ⟨w.heap.size, 2, none⟩) (by simp)
      simp [go_sem] at a0 a1 a2 f0 f1 f2
      exact ⟨⟨a0, a1, a2⟩, f0, f1, f2⟩)
  have j0 : ∀ W : World, (Instr.index 165 (.agg #[.string ⟨#[]⟩, .string ⟨#[117, 112]⟩, .string ⟨#[103, 111, 116]⟩, .string ⟨#[111, 117, 116]⟩]) (.int .i64 0)).run Try.prog W = .ok (.string ⟨#[]⟩) W := fun _ => by kernel_rfl
  have j1 : ∀ W : World, (Instr.index 165 (.agg #[.string ⟨#[]⟩, .string ⟨#[117, 112]⟩, .string ⟨#[103, 111, 116]⟩, .string ⟨#[111, 117, 116]⟩]) (.int .i64 1)).run Try.prog W = .ok (.string ⟨#[117, 112]⟩) W := fun _ => by kernel_rfl
  have j2 : ∀ W : World, (Instr.index 165 (.agg #[.string ⟨#[]⟩, .string ⟨#[117, 112]⟩, .string ⟨#[103, 111, 116]⟩, .string ⟨#[111, 117, 116]⟩]) (.int .i64 2)).run Try.prog W = .ok (.string ⟨#[103, 111, 116]⟩) W := fun _ => by kernel_rfl
  have j3 : ∀ W : World, (Instr.index 165 (.agg #[.string ⟨#[]⟩, .string ⟨#[117, 112]⟩, .string ⟨#[103, 111, 116]⟩, .string ⟨#[111, 117, 116]⟩]) (.int .i64 3)).run Try.prog W = .ok (.string ⟨#[111, 117, 116]⟩) W := fun _ => by kernel_rfl
  go_enter Try.func112, Try.ntmps112
  go_wp2
  go_loopw [3, 4, 5, 6, 8, 18, 25, 37] (fun _ _ _ _ i _ _ _ wr => ∃ k : Nat, k ≤ 4 ∧ i = .int .i64 k ∧ Hid (∀ j : Nat, 1 ≤ j → j < k → ¬ MatchK line j) ∧ Below (w.alloc (.cells #[.int .i64 0, .int .i64 0, .int .i64 0] 44)).heap.size (w.alloc (.cells #[.int .i64 0, .int .i64 0, .int .i64 0] 44)) wr) (fun _ _ _ _ i _ _ _ _ => 4 - (intOf i).toNat)
  case atStart => exact ⟨0, by omega, rfl, (fun j h1 h2 => absurd h2 (by omega)), Below.refl _ _⟩
  case round =>
    obtain ⟨k, hk, rfl, hno, hbr⟩ := hrel
    have hbz := hbr.size
    rcases (show k = 0 ∨ k = 1 ∨ k = 2 ∨ k = 3 ∨ k = 4 by omega) with rfl | rfl | rfl | rfl | rfl
    · skip
      have HBB := Lib.hid (rfl : behindG line (wordK 0) = behindG line (wordK 0))
      generalize hbb : behindG line (wordK 0) = R at HBB
      obtain ⟨n, ok⟩ := R
      have HB := Lib.hid hbb
      clear hbb HBB
      cases ok
      · skip
        go_wp2_with fail
        refine (numbersBehind_any line (wordK 0) _ hs).mono ?_
        rintro e w3 ⟨v3, rfl, o3, b3⟩
        rw [HB.out] at o3 ⊢
        unfold tupVB
        have hb3 := hbr.trans (b3.mono hbz)
        obtain ⟨na, nc, rfl, nl1, nl2, _⟩ := id o3.sl
        unfold maxLen at nl2
        go_wp2
        go_roundw
        case rel => exact ⟨1, by omega, by go_num, (fun j h1 h2 => absurd h2 (by omega)), hb3⟩
        case measure => simp [intOf]
      · skip
        go_wp2_with fail
        refine (numbersBehind_any line (wordK 0) _ hs).mono ?_
        rintro e w3 ⟨v3, rfl, o3, b3⟩
        rw [HB.out] at o3 ⊢
        unfold tupVB
        have hb3 := hbr.trans (b3.mono hbz)
        obtain ⟨na, nc, rfl, nl1, nl2, _⟩ := id o3.sl
        unfold maxLen at nl2
        go_wp2
        go_roundw
        case rel => exact ⟨1, by omega, by go_num, (fun j h1 h2 => absurd h2 (by omega)), hb3⟩
        case measure => simp [intOf]
    · skip
      have HBB := Lib.hid (rfl : behindG line (wordK 1) = behindG line (wordK 1))
      generalize hbb : behindG line (wordK 1) = R at HBB
      obtain ⟨n, ok⟩ := R
      have HB := Lib.hid hbb
      clear hbb HBB
      cases ok
      · skip
        go_wp2_with fail
        refine (numbersBehind_any line (wordK 1) _ hs).mono ?_
        rintro e w3 ⟨v3, rfl, o3, b3⟩
        rw [HB.out] at o3 ⊢
        unfold tupVB
        have hb3 := hbr.trans (b3.mono hbz)
        obtain ⟨na, nc, rfl, nl1, nl2, _⟩ := id o3.sl
        unfold maxLen at nl2
        go_wp2
        go_roundw
        case rel => exact ⟨2, by omega, by go_num, (fun j h1 h2 => by rcases Nat.lt_succ_iff_lt_or_eq.1 h2 with h | h; exact hno.out j h1 h; subst h; intro hm; have := hm.1; rw [HB.out] at this; simp at this), hb3⟩
        case measure => simp [intOf]
      · by_cases hl : n.length = 2
        · have HM : Hid (MatchK line 1) := ⟨by rw [HB.out], by rw [HB.out]; exact hl⟩
          have hr := match_rec HM.out (by omega)
          rw [HB.out] at hr
          obtain ⟨n0, n1, rfl⟩ : ∃ n0 n1, n = [n0, n1] := by
            match n, hl with
            | [a, b], _ => exact ⟨a, b, rfl⟩
          simp at hr
          have HR := Lib.hid hr
          clear hr hl
          go_wp2_with fail
          refine (numbersBehind_any line (wordK 1) _ hs).mono ?_
          rintro e w3 ⟨v3, rfl, o3, b3⟩
          rw [HB.out] at o3 ⊢
          unfold tupVB
          have hb3 := hbr.trans (b3.mono hbz)
          obtain ⟨na, nc, rfl, nl1, nl2, _⟩ := id o3.sl
          unfold maxLen at nl2
          obtain ⟨nb, noff, hadr, hnb, g0⟩ := o3.sl.at_ (k := 0) (by simp)
          obtain ⟨nb', noff', hadr', _, g1⟩ := o3.sl.at_ (k := 1) (by simp)
          rw [hadr] at hadr'
          simp at hadr'
          obtain ⟨rfl, rfl⟩ := hadr'
          subst hadr
          simp only [Nat.add_zero, List.getElem_cons_zero, List.getElem_cons_succ] at g0 g1
          have k0 := fun d os => cell_regrown g0 d os
          have k1 := fun d os => cell_regrown g1 d os
          clear g0 g1 o3
          go_wp2_with fail
          refine wp_region_below_tail 8 (by kernel_rfl) (by kernel_rfl) ?_
          simp only [List.take_succ_cons, List.take_zero, List.drop_succ_cons, List.drop_zero]
          repeat (first | go_big_quiet_skip | quiet_step (fail))
          refine wpQuiet_nil ?_
          intro _ hw'
          obtain ⟨⟨dq, osq⟩, hw''⟩ := hw'
          subst hw''
          have bq := hb3.trans ((below_regrown w3 dq osq).mono hb3.size)
          generalize grow (redrawn w3 dq) osq = wq at bq ⊢
          obtain ⟨⟨r0, r1, r2⟩, f0, f1, f2⟩ := QW.out _ bq
          clear k0 k1
          go_wp2
          refine bodyPost_ret (v := recV (readRecR line)) (by rw [HR.out]; simp [results, Try.results112, go_sem, recV, r0, r1, r2]) rfl ⟨rfl, ?_⟩
          have hbq := bx.trans (bq.mono bx.size)
          exact ((hbq.setCell (Nat.le_refl _) _).setCell (Nat.le_refl _) _).setCell (Nat.le_refl _) _
        · have hl2 : ((n.length : Int) == 2) = false := by simp; omega
          have HL2 := Lib.hid hl
          clear hl
          go_wp2_with fail
          refine (numbersBehind_any line (wordK 1) _ hs).mono ?_
          rintro e w3 ⟨v3, rfl, o3, b3⟩
          rw [HB.out] at o3 ⊢
          unfold tupVB
          have hb3 := hbr.trans (b3.mono hbz)
          obtain ⟨na, nc, rfl, nl1, nl2, _⟩ := id o3.sl
          unfold maxLen at nl2
          go_wp2
          go_roundw
          case rel => exact ⟨2, by omega, by go_num, (fun j h1 h2 => by rcases Nat.lt_succ_iff_lt_or_eq.1 h2 with h | h; exact hno.out j h1 h; subst h; intro hm; have := hm.2; rw [HB.out] at this; exact HL2.out this), hb3⟩
          case measure => simp [intOf]
    · skip
      have HBB := Lib.hid (rfl : behindG line (wordK 2) = behindG line (wordK 2))
      generalize hbb : behindG line (wordK 2) = R at HBB
      obtain ⟨n, ok⟩ := R
      have HB := Lib.hid hbb
      clear hbb HBB
      cases ok
      · skip
        go_wp2_with fail
        refine (numbersBehind_any line (wordK 2) _ hs).mono ?_
        rintro e w3 ⟨v3, rfl, o3, b3⟩
        rw [HB.out] at o3 ⊢
        unfold tupVB
        have hb3 := hbr.trans (b3.mono hbz)
        obtain ⟨na, nc, rfl, nl1, nl2, _⟩ := id o3.sl
        unfold maxLen at nl2
        go_wp2
        go_roundw
        case rel => exact ⟨3, by omega, by go_num, (fun j h1 h2 => by rcases Nat.lt_succ_iff_lt_or_eq.1 h2 with h | h; exact hno.out j h1 h; subst h; intro hm; have := hm.1; rw [HB.out] at this; simp at this), hb3⟩
        case measure => simp [intOf]
      · by_cases hl : n.length = 2
        · have HM : Hid (MatchK line 2) := ⟨by rw [HB.out], by rw [HB.out]; exact hl⟩
          have hr := match_rec HM.out (by omega)
          rw [HB.out] at hr
          obtain ⟨n0, n1, rfl⟩ : ∃ n0 n1, n = [n0, n1] := by
            match n, hl with
            | [a, b], _ => exact ⟨a, b, rfl⟩
          simp at hr
          have HR := Lib.hid hr
          clear hr hl
          go_wp2_with fail
          refine (numbersBehind_any line (wordK 2) _ hs).mono ?_
          rintro e w3 ⟨v3, rfl, o3, b3⟩
          rw [HB.out] at o3 ⊢
          unfold tupVB
          have hb3 := hbr.trans (b3.mono hbz)
          obtain ⟨na, nc, rfl, nl1, nl2, _⟩ := id o3.sl
          unfold maxLen at nl2
          obtain ⟨nb, noff, hadr, hnb, g0⟩ := o3.sl.at_ (k := 0) (by simp)
          obtain ⟨nb', noff', hadr', _, g1⟩ := o3.sl.at_ (k := 1) (by simp)
          rw [hadr] at hadr'
          simp at hadr'
          obtain ⟨rfl, rfl⟩ := hadr'
          subst hadr
          simp only [Nat.add_zero, List.getElem_cons_zero, List.getElem_cons_succ] at g0 g1
          have k0 := fun d os => cell_regrown g0 d os
          have k1 := fun d os => cell_regrown g1 d os
          clear g0 g1 o3
          go_wp2_with fail
          refine wp_region_below_tail 8 (by kernel_rfl) (by kernel_rfl) ?_
          simp only [List.take_succ_cons, List.take_zero, List.drop_succ_cons, List.drop_zero]
          repeat (first | go_big_quiet_skip | quiet_step (fail))
          refine wpQuiet_nil ?_
          intro _ hw'
          obtain ⟨⟨dq, osq⟩, hw''⟩ := hw'
          subst hw''
          have bq := hb3.trans ((below_regrown w3 dq osq).mono hb3.size)
          generalize grow (redrawn w3 dq) osq = wq at bq ⊢
          obtain ⟨⟨r0, r1, r2⟩, f0, f1, f2⟩ := QW.out _ bq
          clear k0 k1
          go_wp2
          refine bodyPost_ret (v := recV (readRecR line)) (by rw [HR.out]; simp [results, Try.results112, go_sem, recV, r0, r1, r2]) rfl ⟨rfl, ?_⟩
          have hbq := bx.trans (bq.mono bx.size)
          exact ((hbq.setCell (Nat.le_refl _) _).setCell (Nat.le_refl _) _).setCell (Nat.le_refl _) _
        · have hl2 : ((n.length : Int) == 2) = false := by simp; omega
          have HL2 := Lib.hid hl
          clear hl
          go_wp2_with fail
          refine (numbersBehind_any line (wordK 2) _ hs).mono ?_
          rintro e w3 ⟨v3, rfl, o3, b3⟩
          rw [HB.out] at o3 ⊢
          unfold tupVB
          have hb3 := hbr.trans (b3.mono hbz)
          obtain ⟨na, nc, rfl, nl1, nl2, _⟩ := id o3.sl
          unfold maxLen at nl2
          go_wp2
          go_roundw
          case rel => exact ⟨3, by omega, by go_num, (fun j h1 h2 => by rcases Nat.lt_succ_iff_lt_or_eq.1 h2 with h | h; exact hno.out j h1 h; subst h; intro hm; have := hm.2; rw [HB.out] at this; exact HL2.out this), hb3⟩
          case measure => simp [intOf]
    · skip
      have HBB := Lib.hid (rfl : behindG line (wordK 3) = behindG line (wordK 3))
      generalize hbb : behindG line (wordK 3) = R at HBB
      obtain ⟨n, ok⟩ := R
      have HB := Lib.hid hbb
      clear hbb HBB
      cases ok
      · skip
        go_wp2_with fail
        refine (numbersBehind_any line (wordK 3) _ hs).mono ?_
        rintro e w3 ⟨v3, rfl, o3, b3⟩
        rw [HB.out] at o3 ⊢
        unfold tupVB
        have hb3 := hbr.trans (b3.mono hbz)
        obtain ⟨na, nc, rfl, nl1, nl2, _⟩ := id o3.sl
        unfold maxLen at nl2
        go_wp2
        go_roundw
        case rel => exact ⟨4, by omega, by go_num, (fun j h1 h2 => by rcases Nat.lt_succ_iff_lt_or_eq.1 h2 with h | h; exact hno.out j h1 h; subst h; intro hm; have := hm.1; rw [HB.out] at this; simp at this), hb3⟩
        case measure => simp [intOf]
      · by_cases hl : n.length = 1
        · have HM : Hid (MatchK line 3) := ⟨by rw [HB.out], by rw [HB.out]; exact hl⟩
          have hr := match_out HM.out
          rw [HB.out] at hr
          obtain ⟨n0, rfl⟩ : ∃ n0, n = [n0] := by
            match n, hl with
            | [a], _ => exact ⟨a, rfl⟩
          simp at hr
          have HR := Lib.hid hr
          clear hr hl
          go_wp2_with fail
          refine (numbersBehind_any line (wordK 3) _ hs).mono ?_
          rintro e w3 ⟨v3, rfl, o3, b3⟩
          rw [HB.out] at o3 ⊢
          unfold tupVB
          have hb3 := hbr.trans (b3.mono hbz)
          obtain ⟨na, nc, rfl, nl1, nl2, _⟩ := id o3.sl
          unfold maxLen at nl2
          obtain ⟨nb, noff, rfl, hnb, g0⟩ := o3.sl.at_ (k := 0) (by simp)
          simp only [Nat.add_zero, List.getElem_cons_zero] at g0
          obtain ⟨⟨r0, r1, r2⟩, f0, f1, f2⟩ := QW.out _ hb3
          clear o3
          go_wp2
          refine bodyPost_ret (v := recV (readRecR line)) (by rw [HR.out]; simp [results, Try.results112, go_sem, recV, r0, r1, r2]) rfl ⟨rfl, ?_⟩
          have hbq := bx.trans (hb3.mono bx.size)
          exact ((hbq.setCell (Nat.le_refl _) _).setCell (Nat.le_refl _) _).setCell (Nat.le_refl _) _
        · have hl2 : ((n.length : Int) == 1) = false := by simp; omega
          have HL2 := Lib.hid hl
          clear hl
          go_wp2_with fail
          refine (numbersBehind_any line (wordK 3) _ hs).mono ?_
          rintro e w3 ⟨v3, rfl, o3, b3⟩
          rw [HB.out] at o3 ⊢
          unfold tupVB
          have hb3 := hbr.trans (b3.mono hbz)
          obtain ⟨na, nc, rfl, nl1, nl2, _⟩ := id o3.sl
          unfold maxLen at nl2
          go_wp2
          go_roundw
          case rel => exact ⟨4, by omega, by go_num, (fun j h1 h2 => by rcases Nat.lt_succ_iff_lt_or_eq.1 h2 with h | h; exact hno.out j h1 h; subst h; intro hm; have := hm.2; rw [HB.out] at this; exact HL2.out this), hb3⟩
          case measure => simp [intOf]
    · obtain ⟨⟨r0, r1, r2⟩, f0, f1, f2⟩ := QW.out _ hbr
      have HR := Lib.hid (match_none (hno.out 1 (by omega) (by omega)) (hno.out 2 (by omega) (by omega)) (hno.out 3 (by omega) (by omega)))
      go_wp2
      refine bodyPost_ret (v := recV (readRecR line)) (by rw [HR.out]; simp [results, Try.results112, go_sem, recV, r0, r1, r2]) rfl ⟨rfl, ?_⟩
      have hbq := bx.trans (hbr.mono bx.size)
      exact ((hbq.setCell (Nat.le_refl _) _).setCell (Nat.le_refl _) _).setCell (Nat.le_refl _) _
end Go.Proofs.Ythheijekdpboaaa
