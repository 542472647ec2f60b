/-
  SampleOf: the first level whose window meets.
-/
import Derived.Test.YthheijekdpboaaaWinOf
namespace Go.Proofs.Ythheijekdpboaaa
open Go.RowKit

def smpFind (t : Int) (xss : List (List Int)) (seed : Int) : Int × Int × Int :=
  match (List.range 7).find? (fun k => winMet (lvlRun t xss seed k)) with
  | some k => (winState (lvlRun t xss seed k), (k : Int), 0)
  | none => (0, 0, 6)
def smpOfR (s t : Int) (xss : List (List Int)) (seed : Int) : Int × Int × Int :=
  if chainOk s t xss = true then (if inR seed 0 1000000000 = true then smpFind t xss seed else (0, 0, 2)) else (0, 0, 1)
def itup3 (r : Int × Int × Int) : Value := .tuple #[.int .i64 r.1, .int .i64 r.2.1, .int .i64 r.2.2]
theorem smpOfR_no {s t : Int} {xss : List (List Int)} {seed : Int} (h : chainOk s t xss = false) : Ending.returned (.tuple #[.int .i64 0, .int .i64 0, .int .i64 1]) = .returned (itup3 (smpOfR s t xss seed)) := by
  unfold smpOfR; rw [h]; rfl
theorem smpOfR_rng {s t : Int} {xss : List (List Int)} {seed : Int} (h : chainOk s t xss = true) (h2 : inR seed 0 1000000000 = false) : Ending.returned (.tuple #[.int .i64 0, .int .i64 0, .int .i64 2]) = .returned (itup3 (smpOfR s t xss seed)) := by
  unfold smpOfR; rw [if_pos h, h2]; rfl
theorem smpOfR_none {s t : Int} {xss : List (List Int)} {seed : Int} (h : chainOk s t xss = true) (h2 : inR seed 0 1000000000 = true) (hn : ∀ i : Nat, i < 7 → winMet (lvlRun t xss seed i) = false) :
    Ending.returned (.tuple #[.int .i64 0, .int .i64 0, .int .i64 6]) = .returned (itup3 (smpOfR s t xss seed)) := by
  have hf : (List.range 7).find? (fun k => winMet (lvlRun t xss seed k)) = none := by
    rw [List.find?_eq_none]
    intro x hx
    rw [hn x (List.mem_range.1 hx)]; decide
  unfold smpOfR; rw [if_pos h, if_pos h2]; unfold smpFind; rw [hf]; rfl
theorem smpOfR_some {s t : Int} {xss : List (List Int)} {seed : Int} {k : Nat} (h : chainOk s t xss = true) (h2 : inR seed 0 1000000000 = true) (hn : ∀ i : Nat, i < k → winMet (lvlRun t xss seed i) = false) (hk : k < 7) (hm : winMet (lvlRun t xss seed k) = true) :
    Ending.returned (.tuple #[.int .i64 (winState (lvlRun t xss seed k)), .int .i64 k, .int .i64 0]) = .returned (itup3 (smpOfR s t xss seed)) := by
  have hf : (List.range 7).find? (fun k => winMet (lvlRun t xss seed k)) = some k := by
    rw [List.find?_range_eq_some]
    exact ⟨hm, List.mem_range.2 hk, fun j hj => by rw [hn j hj]; rfl⟩
  unfold smpOfR; rw [if_pos h, if_pos h2]; unfold smpFind; rw [hf]; rfl

set_option maxHeartbeats 4000000 in
theorem SpecSampleOf_any {v : Value} {xss : List (List Int)} (s t seed : Int) (w : World) (ha : SlII w v xss) :
    Calls Try.prog 42 #[.agg #[.int .i64 s, .int .i64 t, v], .int .i64 seed] w fun e w' => e = .returned (itup3 (smpOfR s t xss seed)) ∧ Below w.heap.size w w' := by
  have HA := Lib.hid (fun W (h : Below w.heap.size w W) => ha.below h)
  obtain ⟨a, ca, us, rfl, _, _, _, _, _⟩ := ha
  generalize hv : chainOk s t xss = V
  have HV := Lib.hid hv
  clear hv
  cases V
  ·
    go_enter Try.func42, Try.ntmps42
    go_wp2_with fail
    refine (l01Ok_any w.heap.size 0 s t _ (chBox w s t _) (HA.out _ (chBelow w s t _))).mono ?_
    rintro e w1 ⟨rfl, b1⟩
    rw [HV.out]
    have hb1 := (chBelow w s t (.slice a xss.length ca)).trans (b1.mono (chBelow w s t (.slice a xss.length ca)).size)
    have C1 := Lib.hid ((chBox w s t (.slice a xss.length ca)).below b1)
    clear b1
    go_wp2
    go_ret3
    exact ⟨smpOfR_no HV.out, hb1⟩
  · generalize hr1 : inR seed 0 1000000000 = r1
    have R1 := Lib.hid hr1
    cases r1
    ·
      clear hr1
      go_enter Try.func42, Try.ntmps42
      go_wp2_with fail
      refine (l01Ok_any w.heap.size 0 s t _ (chBox w s t _) (HA.out _ (chBelow w s t _))).mono ?_
      rintro e w1 ⟨rfl, b1⟩
      rw [HV.out]
      have hb1 := (chBelow w s t (.slice a xss.length ca)).trans (b1.mono (chBelow w s t (.slice a xss.length ca)).size)
      have C1 := Lib.hid ((chBox w s t (.slice a xss.length ca)).below b1)
      clear b1
      go_wp2_with (go_at_call 83; refine (l00In_any _ _ _ _).mono ?_; rintro e w' ⟨rfl, rfl⟩; rw [R1.out])
      go_ret3
      exact ⟨smpOfR_rng HV.out R1.out, hb1⟩
    · obtain ⟨s1, s2⟩ := inR_iff.1 hr1
      clear hr1
      go_enter Try.func42, Try.ntmps42
      go_wp2_with fail
      refine (l01Ok_any w.heap.size 0 s t _ (chBox w s t _) (HA.out _ (chBelow w s t _))).mono ?_
      rintro e w1 ⟨rfl, b1⟩
      rw [HV.out]
      have hb1 := (chBelow w s t (.slice a xss.length ca)).trans (b1.mono (chBelow w s t (.slice a xss.length ca)).size)
      have C1 := Lib.hid ((chBox w s t (.slice a xss.length ca)).below b1)
      clear b1
      go_wp2_with (go_at_call 83; refine (l00In_any _ _ _ _).mono ?_; rintro e w' ⟨rfl, rfl⟩; rw [R1.out])
      go_loopw [7] (fun i wr => ∃ k : Nat, k ≤ 7 ∧ i = .int .i64 k ∧ Hid (∀ i : Nat, i < k → winMet (lvlRun t xss seed i) = false) ∧ Below w1.heap.size w1 wr) (fun i _ => 7 - (intOf i).toNat)
      case atStart => exact ⟨0, by omega, rfl, fun i hi => absurd hi (by omega), Below.refl _ _⟩
      case round =>
        obtain ⟨k, hk, rfl, hno, hbx⟩ := hrel
        have hbw := hb1.trans (hbx.mono hb1.size)
        have C2 := Lib.hid ((C1.out).below hbx)
        obtain ⟨_, c0, c1, c2⟩ := C2.out
        simp only [Nat.zero_add] at c0 c1 c2
        by_cases hk7 : k < 7
        · go_wp2_with fail
          refine (l09Level_any w.heap.size 0 s t seed k _ C2.out (HA.out _ hbw) HV.out (by omega) (by omega) (by omega)).mono ?_
          rintro e w2 ⟨rfl, b2⟩
          generalize hm : winMet (lvlRun t xss seed k) = m
          have HM := Lib.hid hm
          clear hm
          have hb2 := hbw.trans (b2.mono hbw.size)
          have hby := hbx.trans (b2.mono hbx.size)
          cases m
          · go_wp2
            exact ⟨⟨k + 1, by omega, by go_num, fun i hi => (by rcases Nat.lt_succ_iff_lt_or_eq.1 hi with h | h; exact hno i h; subst h; exact HM.out), hby⟩, by simp only [intOf]; omega⟩
          · go_wp2
            go_ret3
            exact ⟨smpOfR_some HV.out R1.out hno hk7 HM.out, hb2⟩
        · obtain rfl : k = 7 := by omega
          go_wp2
          go_ret3
          exact ⟨smpOfR_none HV.out R1.out hno, hbw⟩

set_option maxHeartbeats 4000000 in
theorem ImplSampleOf_any {v : Value} {xss : List (List Int)} (s t seed : Int) (w : World) (ha : SlII w v xss) :
    Calls Try.prog 40 #[.agg #[.int .i64 s, .int .i64 t, v], .int .i64 seed] w fun e w' => e = .returned (itup3 (smpOfR s t xss seed)) ∧ Below w.heap.size w w' := by
  have HA := Lib.hid (fun W (h : Below w.heap.size w W) => ha.below h)
  obtain ⟨a, ca, us, rfl, _, _, _, _, _⟩ := ha
  generalize hv : chainOk s t xss = V
  have HV := Lib.hid hv
  clear hv
  cases V
  ·
    go_enter Try.func40, Try.ntmps40
    go_wp2_with fail
    refine (ValidChain_any s t _ (HA.out _ (chBelow w s t _))).mono ?_
    rintro e w1 ⟨rfl, b1⟩
    rw [HV.out]
    have hb1 := (chBelow w s t (.slice a xss.length ca)).trans (b1.mono (chBelow w s t (.slice a xss.length ca)).size)
    have C1 := Lib.hid ((chBox w s t (.slice a xss.length ca)).below b1)
    clear b1
    go_wp2
    go_ret3
    exact ⟨smpOfR_no HV.out, hb1⟩
  · generalize hr1 : inR seed 0 1000000000 = r1
    have R1 := Lib.hid hr1
    cases r1
    ·
      clear hr1
      go_enter Try.func40, Try.ntmps40
      go_wp2_with fail
      refine (ValidChain_any s t _ (HA.out _ (chBelow w s t _))).mono ?_
      rintro e w1 ⟨rfl, b1⟩
      rw [HV.out]
      have hb1 := (chBelow w s t (.slice a xss.length ca)).trans (b1.mono (chBelow w s t (.slice a xss.length ca)).size)
      have C1 := Lib.hid ((chBox w s t (.slice a xss.length ca)).below b1)
      clear b1
      go_wp2_with (go_at_call 70; refine (inRange_any _ _ _ _).mono ?_; rintro e w' ⟨rfl, rfl⟩; rw [R1.out])
      go_ret3
      exact ⟨smpOfR_rng HV.out R1.out, hb1⟩
    · obtain ⟨s1, s2⟩ := inR_iff.1 hr1
      clear hr1
      go_enter Try.func40, Try.ntmps40
      go_wp2_with fail
      refine (ValidChain_any s t _ (HA.out _ (chBelow w s t _))).mono ?_
      rintro e w1 ⟨rfl, b1⟩
      rw [HV.out]
      have hb1 := (chBelow w s t (.slice a xss.length ca)).trans (b1.mono (chBelow w s t (.slice a xss.length ca)).size)
      have C1 := Lib.hid ((chBox w s t (.slice a xss.length ca)).below b1)
      clear b1
      go_wp2_with (go_at_call 70; refine (inRange_any _ _ _ _).mono ?_; rintro e w' ⟨rfl, rfl⟩; rw [R1.out])
      go_loopw [16] (fun i wr => ∃ k : Nat, k ≤ 7 ∧ i = .int .i64 k ∧ Hid (∀ i : Nat, i < k → winMet (lvlRun t xss seed i) = false) ∧ Below w1.heap.size w1 wr) (fun i _ => 7 - (intOf i).toNat)
      case atStart => exact ⟨0, by omega, rfl, fun i hi => absurd hi (by omega), Below.refl _ _⟩
      case round =>
        obtain ⟨k, hk, rfl, hno, hbx⟩ := hrel
        have hbw := hb1.trans (hbx.mono hb1.size)
        have C2 := Lib.hid ((C1.out).below hbx)
        obtain ⟨_, c0, c1, c2⟩ := C2.out
        simp only [Nat.zero_add] at c0 c1 c2
        by_cases hk7 : k < 7
        · go_wp2_with fail
          refine (windowOf_any s t seed k _ (HA.out _ hbw) HV.out (by omega) (by omega) (by omega)).mono ?_
          rintro e w2 ⟨rfl, b2⟩
          generalize hm : winMet (lvlRun t xss seed k) = m
          have HM := Lib.hid hm
          clear hm
          have hb2 := hbw.trans (b2.mono hbw.size)
          have hby := hbx.trans (b2.mono hbx.size)
          cases m
          · go_wp2
            exact ⟨⟨k + 1, by omega, by go_num, fun i hi => (by rcases Nat.lt_succ_iff_lt_or_eq.1 hi with h | h; exact hno i h; subst h; exact HM.out), hby⟩, by simp only [intOf]; omega⟩
          · go_wp2
            go_ret3
            exact ⟨smpOfR_some HV.out R1.out hno hk7 HM.out, hb2⟩
        · obtain rfl : k = 7 := by omega
          go_wp2
          go_ret3
          exact ⟨smpOfR_none HV.out R1.out hno, hbw⟩
