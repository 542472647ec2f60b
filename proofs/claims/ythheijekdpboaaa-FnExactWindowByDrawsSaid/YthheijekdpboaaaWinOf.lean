/-
  WindowOf: the window of one level.
-/
import Derived.Test.YthheijekdpboaaaLevel
import Derived.Test.YthheijekdpboaaaServiceOk
namespace Go.Proofs.Ythheijekdpboaaa
open Go.RowKit

def winOfR (s t : Int) (xss : List (List Int)) (seed lvl : Int) : Bool × Int × Int :=
  if chainOk s t xss = true then (if (inR seed 0 1000000000 && inR lvl 0 6) = true then (winMet (lvlRun t xss seed lvl.toNat), winState (lvlRun t xss seed lvl.toNat), 0) else (false, 0, 2)) else (false, 0, 1)
def tup3 (r : Bool × Int × Int) : Value := .tuple #[.bool r.1, .int .i64 r.2.1, .int .i64 r.2.2]
theorem winOfR_no {s t : Int} {xss : List (List Int)} {seed lvl : Int} (h : chainOk s t xss = false) : Ending.returned (.tuple #[.bool false, .int .i64 0, .int .i64 1]) = .returned (tup3 (winOfR s t xss seed lvl)) := by
  unfold winOfR; rw [h]; rfl
theorem winOfR_rng {s t : Int} {xss : List (List Int)} {seed lvl : Int} (h : chainOk s t xss = true) (h2 : (inR seed 0 1000000000 && inR lvl 0 6) = false) : Ending.returned (.tuple #[.bool false, .int .i64 0, .int .i64 2]) = .returned (tup3 (winOfR s t xss seed lvl)) := by
  unfold winOfR; rw [if_pos h, h2]; rfl
theorem winOfR_ok {s t : Int} {xss : List (List Int)} {seed : Int} {k : Nat} (h : chainOk s t xss = true) (h2 : (inR seed 0 1000000000 && inR (k : Int) 0 6) = true) :
    Ending.returned (.tuple #[.bool (winMet (lvlRun t xss seed k)), .int .i64 (winState (lvlRun t xss seed k)), .int .i64 0]) = .returned (tup3 (winOfR s t xss seed k)) := by
  unfold winOfR; rw [if_pos h, if_pos h2, Int.toNat_natCast]; rfl

set_option maxHeartbeats 4000000 in
theorem SpecWindowOf_any {v : Value} {xss : List (List Int)} (s t seed lvl : Int) (w : World) (ha : SlII w v xss) :
    Calls Try.prog 33 #[.agg #[.int .i64 s, .int .i64 t, v], .int .i64 seed, .int .i64 lvl] w fun e w' => e = .returned (tup3 (winOfR s t xss seed lvl)) ∧ Below w.heap.size w w' := by
  have HA := Lib.hid (fun W (h : Below w.heap.size w W) => ha.below h)
  obtain ⟨a, ca, us, rfl, _, _, _, _, _⟩ := ha
  generalize hv : chainOk s t xss = V
  have HV := Lib.hid hv
  clear hv
  cases V
  ·
    go_enter Try.func33, Try.ntmps33
    go_wp2_with fail
    refine (l01Ok_any w.heap.size 0 s t _ (chBox w s t _) (HA.out _ (chBelow w s t _))).mono ?_
    rintro e w1 ⟨rfl, b1⟩
    rw [HV.out]
    have hb1 := (chBelow w s t (.slice a xss.length ca)).trans (b1.mono (chBelow w s t (.slice a xss.length ca)).size)
    have C1 := Lib.hid ((chBox w s t (.slice a xss.length ca)).below b1)
    obtain ⟨_, c0, c1, c2⟩ := C1.out
    simp only [Nat.zero_add] at c0 c1 c2
    clear b1
    go_wp2
    go_ret3
    exact ⟨winOfR_no HV.out, hb1⟩
  · generalize hr1 : inR seed 0 1000000000 = r1
    generalize hr2 : inR lvl 0 6 = r2
    have R1 := Lib.hid hr1
    have R2 := Lib.hid hr2
    cases r1 <;> cases r2
    case true.true =>
      obtain ⟨s1, s2⟩ := inR_iff.1 hr1
      obtain ⟨l1, l2⟩ := inR_iff.1 hr2
      clear hr1 hr2
      obtain ⟨k, rfl⟩ : ∃ k : Nat, lvl = (k : Int) := ⟨lvl.toNat, by omega⟩
      go_enter Try.func33, Try.ntmps33
      go_wp2_with fail
      refine (l01Ok_any w.heap.size 0 s t _ (chBox w s t _) (HA.out _ (chBelow w s t _))).mono ?_
      rintro e w1 ⟨rfl, b1⟩
      rw [HV.out]
      have hb1 := (chBelow w s t (.slice a xss.length ca)).trans (b1.mono (chBelow w s t (.slice a xss.length ca)).size)
      have C1 := Lib.hid ((chBox w s t (.slice a xss.length ca)).below b1)
      obtain ⟨_, c0, c1, c2⟩ := C1.out
      simp only [Nat.zero_add] at c0 c1 c2
      clear b1
      go_wp2_with (go_at_call 83; refine (l00In_any _ _ _ _).mono ?_; rintro e w' ⟨rfl, rfl⟩; first | rw [R1.out] | rw [R2.out])
      refine (l09Level_any w.heap.size 0 s t seed k _ C1.out (HA.out _ hb1) HV.out (by omega) (by omega) (by omega)).mono ?_
      rintro e w2 ⟨rfl, b2⟩
      go_wp2
      go_ret3
      exact ⟨winOfR_ok HV.out (by rw [R1.out, R2.out]; rfl), hb1.trans (b2.mono hb1.size)⟩
    all_goals
      clear hr1 hr2
      go_enter Try.func33, Try.ntmps33
      go_wp2_with fail
      refine (l01Ok_any w.heap.size 0 s t _ (chBox w s t _) (HA.out _ (chBelow w s t _))).mono ?_
      rintro e w1 ⟨rfl, b1⟩
      rw [HV.out]
      have hb1 := (chBelow w s t (.slice a xss.length ca)).trans (b1.mono (chBelow w s t (.slice a xss.length ca)).size)
      have C1 := Lib.hid ((chBox w s t (.slice a xss.length ca)).below b1)
      obtain ⟨_, c0, c1, c2⟩ := C1.out
      simp only [Nat.zero_add] at c0 c1 c2
      clear b1
      go_wp2_with (go_at_call 83; refine (l00In_any _ _ _ _).mono ?_; rintro e w' ⟨rfl, rfl⟩; first | rw [R1.out] | rw [R2.out])
      go_ret3
      exact ⟨winOfR_rng HV.out (by rw [R1.out, R2.out]; rfl), hb1⟩

set_option maxHeartbeats 4000000 in
theorem ImplWindowOf_any {v : Value} {xss : List (List Int)} (s t seed lvl : Int) (w : World) (ha : SlII w v xss) :
    Calls Try.prog 34 #[.agg #[.int .i64 s, .int .i64 t, v], .int .i64 seed, .int .i64 lvl] w fun e w' => e = .returned (tup3 (winOfR s t xss seed lvl)) ∧ Below w.heap.size w w' := by
  have HA := Lib.hid (fun W (h : Below w.heap.size w W) => ha.below h)
  obtain ⟨a, ca, us, rfl, _, _, _, _, _⟩ := ha
  generalize hv : chainOk s t xss = V
  have HV := Lib.hid hv
  clear hv
  cases V
  ·
    go_enter Try.func34, Try.ntmps34
    go_wp2_with fail
    refine (ValidChain_any s t _ (HA.out _ (chBelow w s t _))).mono ?_
    rintro e w1 ⟨rfl, b1⟩
    rw [HV.out]
    have hb1 := (chBelow w s t (.slice a xss.length ca)).trans (b1.mono (chBelow w s t (.slice a xss.length ca)).size)
    have C1 := Lib.hid ((chBox w s t (.slice a xss.length ca)).below b1)
    obtain ⟨_, c0, c1, c2⟩ := C1.out
    simp only [Nat.zero_add] at c0 c1 c2
    clear b1
    go_wp2
    go_ret3
    exact ⟨winOfR_no HV.out, hb1⟩
  · generalize hr1 : inR seed 0 1000000000 = r1
    generalize hr2 : inR lvl 0 6 = r2
    have R1 := Lib.hid hr1
    have R2 := Lib.hid hr2
    cases r1 <;> cases r2
    case true.true =>
      obtain ⟨s1, s2⟩ := inR_iff.1 hr1
      obtain ⟨l1, l2⟩ := inR_iff.1 hr2
      clear hr1 hr2
      obtain ⟨k, rfl⟩ : ∃ k : Nat, lvl = (k : Int) := ⟨lvl.toNat, by omega⟩
      go_enter Try.func34, Try.ntmps34
      go_wp2_with fail
      refine (ValidChain_any s t _ (HA.out _ (chBelow w s t _))).mono ?_
      rintro e w1 ⟨rfl, b1⟩
      rw [HV.out]
      have hb1 := (chBelow w s t (.slice a xss.length ca)).trans (b1.mono (chBelow w s t (.slice a xss.length ca)).size)
      have C1 := Lib.hid ((chBox w s t (.slice a xss.length ca)).below b1)
      obtain ⟨_, c0, c1, c2⟩ := C1.out
      simp only [Nat.zero_add] at c0 c1 c2
      clear b1
      go_wp2_with (go_at_call 70; refine (inRange_any _ _ _ _).mono ?_; rintro e w' ⟨rfl, rfl⟩; first | rw [R1.out] | rw [R2.out])
      refine (windowOf_any s t seed k _ (HA.out _ hb1) HV.out (by omega) (by omega) (by omega)).mono ?_
      rintro e w2 ⟨rfl, b2⟩
      go_wp2
      go_ret3
      exact ⟨winOfR_ok HV.out (by rw [R1.out, R2.out]; rfl), hb1.trans (b2.mono hb1.size)⟩
    all_goals
      clear hr1 hr2
      go_enter Try.func34, Try.ntmps34
      go_wp2_with fail
      refine (ValidChain_any s t _ (HA.out _ (chBelow w s t _))).mono ?_
      rintro e w1 ⟨rfl, b1⟩
      rw [HV.out]
      have hb1 := (chBelow w s t (.slice a xss.length ca)).trans (b1.mono (chBelow w s t (.slice a xss.length ca)).size)
      have C1 := Lib.hid ((chBox w s t (.slice a xss.length ca)).below b1)
      obtain ⟨_, c0, c1, c2⟩ := C1.out
      simp only [Nat.zero_add] at c0 c1 c2
      clear b1
      go_wp2_with (go_at_call 70; refine (inRange_any _ _ _ _).mono ?_; rintro e w' ⟨rfl, rfl⟩; first | rw [R1.out] | rw [R2.out])
      go_ret3
      exact ⟨winOfR_rng HV.out (by rw [R1.out, R2.out]; rfl), hb1⟩
