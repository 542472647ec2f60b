/-
  Which services are valid.
-/
import Derived.Test.YthbbnjpadmcbmaaService
namespace Go.Proofs.Ythbbnjpadmcbmaa
open Go.RowKit Go.Sort
/-- six cells: a service -/
def ServAt (w : World) (b o : Nat) (s t : Int) (v : Value) (bs sm wk : Int) : Prop :=
  ChainAt w b o s t v ∧ w.cell? ⟨b, o + 3, none⟩ = some (.int .i64 bs) ∧ w.cell? ⟨b, o + 4, none⟩ = some (.int .i64 sm) ∧ w.cell? ⟨b, o + 5, none⟩ = some (.int .i64 wk)
theorem ServAt.below {w w' : World} {b o : Nat} {s t : Int} {v : Value} {bs sm wk : Int} (h : ServAt w b o s t v bs sm wk) (hb : Below w.heap.size w w') : ServAt w' b o s t v bs sm wk :=
  ⟨h.1.below hb, by rw [hb.cell (p := ⟨b, o + 3, none⟩) h.1.1]; exact h.2.1, by rw [hb.cell (p := ⟨b, o + 4, none⟩) h.1.1]; exact h.2.2.1, by rw [hb.cell (p := ⟨b, o + 5, none⟩) h.1.1]; exact h.2.2.2⟩
def svObj (s t : Int) (v : Value) (bs sm wk : Int) : Obj := .cells #[.int .i64 s, .int .i64 t, v, .int .i64 bs, .int .i64 sm, .int .i64 wk] 37
theorem svBox (w : World) (s t : Int) (v : Value) (bs sm wk : Int) : ServAt (w.alloc (svObj s t v bs sm wk)) w.heap.size 0 s t v bs sm wk := by
  unfold svObj ServAt ChainAt
  refine ⟨⟨by simp, ?_, ?_, ?_⟩, ?_, ?_, ?_⟩ <;> simp [go_sem]

set_option maxHeartbeats 1000000 in
theorem l09Ok_any {v : Value} {xss : List (List Int)} (b o : Nat) (s t bs sm wk : Int) (w : World) (hc : ServAt w b o s t v bs sm wk) (ha : SlII w v xss) :
    Calls Try.prog 66 #[.pointer (some ⟨b, o, none⟩)] w fun e w' => e = .returned (.bool (serviceOk s t xss bs sm wk)) ∧ Below w.heap.size w w' := by
  have K := l01Ok_any b o s t w hc.1 ha
  obtain ⟨c0, c3, c4, c5⟩ := hc
  have c00 := c0.1
  generalize hq : chainOk s t xss = q at K
  have HK := Lib.hid K
  have HQ := Lib.hid hq
  clear K hq c0 ha
  cases q
  · have HD : Hid (serviceOk s t xss bs sm wk = false) := by unfold Hid serviceOk; rw [HQ.out]; rfl
    go_enter Try.func66, Try.ntmps66
    go_wp2_with fail
    refine (HK.out).mono ?_
    rintro e w1 ⟨rfl, b1⟩
    have d3 := (b1.cell (p := ⟨b, o + 3, none⟩) c00).trans c3
    have d4 := (b1.cell (p := ⟨b, o + 4, none⟩) c00).trans c4
    have d5 := (b1.cell (p := ⟨b, o + 5, none⟩) c00).trans c5
    go_wp2_with (go_at_call 129; refine (l00In_any _ _ _ _).mono ?_; rintro e w' ⟨rfl, rfl⟩)
    go_ret
    exact ⟨rbf HD.out, b1⟩
  · by_cases h1 : inR sm 1 8 = true
    · by_cases h2 : inR wk 1 4 = true
      · generalize h3 : inR bs 0 999999992 = r
        have HR := Lib.hid h3
        have HD : Hid (serviceOk s t xss bs sm wk = r) := by unfold Hid serviceOk; rw [HQ.out, h1, h2, HR.out]; rfl
        clear h3
        go_enter Try.func66, Try.ntmps66
        go_wp2_with fail
        refine (HK.out).mono ?_
        rintro e w1 ⟨rfl, b1⟩
        have d3 := (b1.cell (p := ⟨b, o + 3, none⟩) c00).trans c3
        have d4 := (b1.cell (p := ⟨b, o + 4, none⟩) c00).trans c4
        have d5 := (b1.cell (p := ⟨b, o + 5, none⟩) c00).trans c5
        go_wp2_with (go_at_call 129; refine (l00In_any _ _ _ _).mono ?_; rintro e w' ⟨rfl, rfl⟩; try rw [HR.out])
        go_ret
        exact ⟨rb HD.out.symm, b1⟩
      · have h2' : inR wk 1 4 = false := by simpa using h2
        have HD : Hid (serviceOk s t xss bs sm wk = false) := by unfold Hid serviceOk; rw [h2']; simp
        clear h2
        go_enter Try.func66, Try.ntmps66
        go_wp2_with fail
        refine (HK.out).mono ?_
        rintro e w1 ⟨rfl, b1⟩
        have d3 := (b1.cell (p := ⟨b, o + 3, none⟩) c00).trans c3
        have d4 := (b1.cell (p := ⟨b, o + 4, none⟩) c00).trans c4
        have d5 := (b1.cell (p := ⟨b, o + 5, none⟩) c00).trans c5
        go_wp2_with (go_at_call 129; refine (l00In_any _ _ _ _).mono ?_; rintro e w' ⟨rfl, rfl⟩)
        go_ret
        exact ⟨rbf HD.out, b1⟩
    · have h1' : inR sm 1 8 = false := by simpa using h1
      have HD : Hid (serviceOk s t xss bs sm wk = false) := by unfold Hid serviceOk; rw [h1']; simp
      clear h1
      go_enter Try.func66, Try.ntmps66
      go_wp2_with fail
      refine (HK.out).mono ?_
      rintro e w1 ⟨rfl, b1⟩
      have d3 := (b1.cell (p := ⟨b, o + 3, none⟩) c00).trans c3
      have d4 := (b1.cell (p := ⟨b, o + 4, none⟩) c00).trans c4
      have d5 := (b1.cell (p := ⟨b, o + 5, none⟩) c00).trans c5
      go_wp2_with (go_at_call 129; refine (l00In_any _ _ _ _).mono ?_; rintro e w' ⟨rfl, rfl⟩)
      go_ret
      exact ⟨rbf HD.out, b1⟩

set_option maxHeartbeats 1000000 in
theorem ImplValidService_any {v : Value} {xss : List (List Int)} (s t bs sm wk : Int) (w : World) (ha : SlII w v xss) :
    Calls Try.prog 61 #[.agg #[.int .i64 s, .int .i64 t, v, .int .i64 bs, .int .i64 sm, .int .i64 wk]] w fun e w' => e = .returned (.bool (serviceOk s t xss bs sm wk)) ∧ Below w.heap.size w w' := by
  have bb : Below w.heap.size w (w.alloc (svObj s t v bs sm wk)) := (Below.refl _ _).alloc (Nat.le_refl _) _
  have hc := svBox w s t v bs sm wk
  have K := ValidChain_any s t _ (ha.below bb)
  obtain ⟨a, ca, us, rfl, _, _, _, _, _⟩ := ha
  obtain ⟨c0, c3, c4, c5⟩ := hc
  have c00 := c0.1
  generalize hq : chainOk s t xss = q at K
  have HK := Lib.hid K
  have HQ := Lib.hid hq
  clear K hq c0
  have C3 := Lib.hid c3
  have C4 := Lib.hid c4
  have C5 := Lib.hid c5
  clear c3 c4 c5
  cases q
  · have HD : Hid (serviceOk s t xss bs sm wk = false) := by unfold Hid serviceOk; rw [HQ.out]; rfl
    go_enter Try.func61, Try.ntmps61
    go_wp2_with fail
    refine (HK.out).mono ?_
    rintro e w1 ⟨rfl, b1⟩
    have d3 := (b1.cell (p := ⟨w.heap.size, 0 + 3, none⟩) c00).trans C3.out
    have d4 := (b1.cell (p := ⟨w.heap.size, 0 + 4, none⟩) c00).trans C4.out
    have d5 := (b1.cell (p := ⟨w.heap.size, 0 + 5, none⟩) c00).trans C5.out
    simp only [Nat.zero_add] at d3 d4 d5
    go_wp2_with (go_at_call 98; refine (inRange_any _ _ _ _).mono ?_; rintro e w' ⟨rfl, rfl⟩)
    go_ret
    exact ⟨rbf HD.out, bb.trans (b1.mono (by simp))⟩
  · by_cases h1 : inR sm 1 8 = true
    · by_cases h2 : inR wk 1 4 = true
      · generalize h3 : inR bs 0 999999992 = r
        have HR := Lib.hid h3
        have HD : Hid (serviceOk s t xss bs sm wk = r) := by unfold Hid serviceOk; rw [HQ.out, h1, h2, HR.out]; rfl
        clear h3
        go_enter Try.func61, Try.ntmps61
        go_wp2_with fail
        refine (HK.out).mono ?_
        rintro e w1 ⟨rfl, b1⟩
        have d3 := (b1.cell (p := ⟨w.heap.size, 0 + 3, none⟩) c00).trans C3.out
        have d4 := (b1.cell (p := ⟨w.heap.size, 0 + 4, none⟩) c00).trans C4.out
        have d5 := (b1.cell (p := ⟨w.heap.size, 0 + 5, none⟩) c00).trans C5.out
        simp only [Nat.zero_add] at d3 d4 d5
        go_wp2_with (go_at_call 98; refine (inRange_any _ _ _ _).mono ?_; rintro e w' ⟨rfl, rfl⟩; try rw [HR.out])
        go_ret
        exact ⟨rb HD.out.symm, bb.trans (b1.mono (by simp))⟩
      · have h2' : inR wk 1 4 = false := by simpa using h2
        have HD : Hid (serviceOk s t xss bs sm wk = false) := by unfold Hid serviceOk; rw [h2']; simp
        clear h2
        go_enter Try.func61, Try.ntmps61
        go_wp2_with fail
        refine (HK.out).mono ?_
        rintro e w1 ⟨rfl, b1⟩
        have d3 := (b1.cell (p := ⟨w.heap.size, 0 + 3, none⟩) c00).trans C3.out
        have d4 := (b1.cell (p := ⟨w.heap.size, 0 + 4, none⟩) c00).trans C4.out
        have d5 := (b1.cell (p := ⟨w.heap.size, 0 + 5, none⟩) c00).trans C5.out
        simp only [Nat.zero_add] at d3 d4 d5
        go_wp2_with (go_at_call 98; refine (inRange_any _ _ _ _).mono ?_; rintro e w' ⟨rfl, rfl⟩)
        go_ret
        exact ⟨rbf HD.out, bb.trans (b1.mono (by simp))⟩
    · have h1' : inR sm 1 8 = false := by simpa using h1
      have HD : Hid (serviceOk s t xss bs sm wk = false) := by unfold Hid serviceOk; rw [h1']; simp
      clear h1
      go_enter Try.func61, Try.ntmps61
      go_wp2_with fail
      refine (HK.out).mono ?_
      rintro e w1 ⟨rfl, b1⟩
      have d3 := (b1.cell (p := ⟨w.heap.size, 0 + 3, none⟩) c00).trans C3.out
      have d4 := (b1.cell (p := ⟨w.heap.size, 0 + 4, none⟩) c00).trans C4.out
      have d5 := (b1.cell (p := ⟨w.heap.size, 0 + 5, none⟩) c00).trans C5.out
      simp only [Nat.zero_add] at d3 d4 d5
      go_wp2_with (go_at_call 98; refine (inRange_any _ _ _ _).mono ?_; rintro e w' ⟨rfl, rfl⟩)
      go_ret
      exact ⟨rbf HD.out, bb.trans (b1.mono (by simp))⟩
end Go.Proofs.Ythbbnjpadmcbmaa
