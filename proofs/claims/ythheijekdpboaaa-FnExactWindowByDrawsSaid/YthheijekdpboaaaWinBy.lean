/-
  WindowByDraws, both sides; a search by a closure.
-/
import Derived.Test.YthheijekdpboaaaWinOf
namespace Go.Proofs.Ythheijekdpboaaa
open Go.RowKit Go.Sort

def ixP (p : Int → Bool) : List Int → Nat → Int
  | [], _ => -1
  | x :: r, k => if p x = true then (k : Int) else ixP p r (k + 1)
theorem ixP_any (p : Int → Bool) : ∀ (l : List Int) (k : Nat), decide (0 ≤ ixP p l k) = l.any p
  | [], k => by simp [ixP]
  | x :: r, k => by
    unfold ixP
    by_cases h : p x = true
    · rw [if_pos h]; simp [h]
    · rw [if_neg h, ixP_any p r (k + 1)]; simp [h]
theorem ixP_step {p : Int → Bool} {l : List Int} {k : Nat} (h : k < l.length) : ixP p (l.drop k) k = if p l[k] = true then (k : Int) else ixP p (l.drop (k + 1)) (k + 1) := by
  rw [List.drop_eq_getElem_cons h]; rfl
theorem ixP_bd (p : Int → Bool) : ∀ (l : List Int) (k : Nat), -1 ≤ ixP p l k ∧ ixP p l k < k + l.length
  | [], k => by simp [ixP]; omega
  | x :: r, k => by
    unfold ixP
    have := ixP_bd p r (k + 1)
    split
    · simp; omega
    · simp at this ⊢; omega

set_option maxHeartbeats 1000000 in
theorem IndexFuncI_any {u : Value} {xs : List Int} (cap : Value) (p : Int → Bool) (w : World) (ha : SlI w u xs)
    (hf : ∀ W x, Below w.heap.size w W → x ∈ xs → Calls Try.prog 87 #[.int .i64 x, cap] W fun e w' => e = .returned (.bool (p x)) ∧ Below W.heap.size W w') :
    Calls Try.prog 124 #[u, .func (.func 87) #[] #[cap]] w fun e w' => e = .returned (.int .i64 (ixP p xs 0)) ∧ Below w.heap.size w w' := by
  obtain ⟨a, ca, rfl, hca, hca', ha⟩ := ha
  unfold maxLen at hca'
  have HF := Lib.hid hf
  clear hf
  go_enter Try.func124, Try.ntmps124
  go_wp2
  go_loopw [5, 8] (fun _ i wr => ∃ k : Nat, k ≤ xs.length ∧ i = .int .i64 k ∧ Hid (ixP p xs 0 = ixP p (xs.drop k) k) ∧ Below w.heap.size w wr) (fun _ i _ => xs.length - (intOf i).toNat)
  case atStart => exact ⟨0, Nat.zero_le _, rfl, rfl, Below.refl _ _⟩
  case round =>
    obtain ⟨k, hk, rfl, hno, hbw⟩ := hrel
    by_cases hlt : k < xs.length
    · obtain ⟨b, off, rfl, gc⟩ := (ha.below hbw).one (i64s_get hlt)
      have i1 : (k : Int) < (xs.length : Int) := by omega
      have hst := ixP_step (p := p) hlt
      have HS := Lib.hid hst
      clear hst
      generalize hp : p xs[k] = P
      have HP := Lib.hid hp
      clear hp
      cases P
      · go_wp2_with fail
        refine (HF.out _ xs[k] hbw (List.getElem_mem hlt)).mono ?_
        rintro e w2 ⟨rfl, b2⟩
        rw [HP.out]
        have bq := hbw.trans (b2.mono hbw.size)
        go_wp2
        go_roundw
        case rel => exact ⟨k + 1, by omega, by go_num, by unfold Hid at *; rw [hno, HS, HP]; rfl, bq⟩
        case measure => simp [intOf]; omega
      · go_wp2_with fail
        refine (HF.out _ xs[k] hbw (List.getElem_mem hlt)).mono ?_
        rintro e w2 ⟨rfl, b2⟩
        rw [HP.out]
        have bq := hbw.trans (b2.mono hbw.size)
        go_wp2
        go_ret
        exact ⟨ri (by rw [hno.out, HS.out, HP.out]; rfl), bq⟩
    · obtain rfl : k = xs.length := by omega
      go_wp2
      go_ret
      exact ⟨ri (by rw [hno.out]; simp [ixP]), hbw⟩
set_option maxHeartbeats 400000 in
theorem ContainsFuncI_any {u : Value} {xs : List Int} (cap : Value) (p : Int → Bool) (w : World) (ha : SlI w u xs)
    (hf : ∀ W x, Below w.heap.size w W → x ∈ xs → Calls Try.prog 87 #[.int .i64 x, cap] W fun e w' => e = .returned (.bool (p x)) ∧ Below W.heap.size W w') :
    Calls Try.prog 86 #[u, .func (.func 87) #[] #[cap]] w fun e w' => e = .returned (.bool (xs.any p)) ∧ Below w.heap.size w w' := by
  have hx := ixP_any p xs 0
  obtain ⟨hb0, hb1⟩ := ixP_bd p xs 0
  obtain ⟨a, ca, rfl, hca, hca', _⟩ := id ha
  unfold maxLen at hca'
  have HF := Lib.hid hf
  have HX := Lib.hid hx
  clear hf hx
  go_enter Try.func86, Try.ntmps86
  go_wp2_with fail
  refine (IndexFuncI_any cap p _ ha HF.out).mono ?_
  rintro e w2 ⟨rfl, b2⟩
  go_wp2
  go_ret
  exact ⟨rb HX.out, b2⟩

set_option maxHeartbeats 400000 in
theorem isDraw_any {v : Value} {xss : List (List Int)} (s t d : Int) (w : World) (ha : SlII w v xss) (ht : 1 ≤ t) (ht2 : t ≤ 60) :
    Calls Try.prog 88 #[.agg #[.int .i64 s, .int .i64 t, v], .int .i64 d] w fun e w' => e = .returned (.bool (inR d 0 (t - 1))) ∧ Below w.heap.size w w' := by
  obtain ⟨a, ca, us, rfl, _⟩ := id ha
  clear ha
  go_enter Try.func88, Try.ntmps88
  go_wp2_with (go_at_call 70; refine (inRange_any _ _ _ _).mono ?_; rintro e w' ⟨rfl, rfl⟩)
  go_ret
  exact ⟨rfl, chBelow w s t _⟩
set_option maxHeartbeats 400000 in
theorem winClosure_any {v : Value} {xss : List (List Int)} (b : Nat) (s t d : Int) (w : World) (hc : ChainAt w b 0 s t v) (ha : SlII w v xss) (ht : 1 ≤ t) (ht2 : t ≤ 60) :
    Calls Try.prog 87 #[.int .i64 d, .pointer (some ⟨b, 0, none⟩)] w fun e w' => e = .returned (.bool (!inR d 0 (t - 1))) ∧ Below w.heap.size w w' := by
  obtain ⟨a, ca, us, rfl, _⟩ := id ha
  obtain ⟨c00, c0, c1, c2⟩ := hc
  simp only [Nat.zero_add] at c0 c1 c2
  go_enter Try.func87, Try.ntmps87
  go_wp2_with fail
  refine (isDraw_any s t d _ ha ht ht2).mono ?_
  rintro e w2 ⟨rfl, b2⟩
  go_wp2
  go_ret
  exact ⟨rfl, b2⟩

def drawsOk (t : Int) (draws : List Int) : Bool := decide (draws.length ≤ 64) && !(draws.any fun d => !inR d 0 (t - 1))
def winByR (s t : Int) (xss : List (List Int)) (draws : List Int) : Bool × Int × Int :=
  if chainOk s t xss = true then (if drawsOk t draws = true then (winMet (runAll xss draws xss.length), winState (runAll xss draws xss.length), 0) else (false, 0, 2)) else (false, 0, 1)
theorem winByR_no {s t : Int} {xss : List (List Int)} {d : List Int} (h : chainOk s t xss = false) : Ending.returned (.tuple #[.bool false, .int .i64 0, .int .i64 1]) = .returned (tup3 (winByR s t xss d)) := by
  unfold winByR; rw [h]; rfl
theorem winByR_rng {s t : Int} {xss : List (List Int)} {d : List Int} (h : chainOk s t xss = true) (h2 : drawsOk t d = false) : Ending.returned (.tuple #[.bool false, .int .i64 0, .int .i64 2]) = .returned (tup3 (winByR s t xss d)) := by
  unfold winByR; rw [if_pos h, h2]; rfl
theorem winByR_yes {s t : Int} {xss : List (List Int)} {d : List Int} (h : chainOk s t xss = true) (h2 : drawsOk t d = true) :
    Ending.returned (.tuple #[.bool (winMet (runAll xss d xss.length)), .int .i64 (winState (runAll xss d xss.length)), .int .i64 0]) = .returned (tup3 (winByR s t xss d)) := by
  unfold winByR; rw [if_pos h, if_pos h2]; rfl
theorem drawsOk_B {t : Int} {d : List Int} (h : drawsOk t d = true) : DrawsB t d := by
  unfold drawsOk at h
  rw [Bool.and_eq_true] at h
  have h2 := h.2
  intro x hx
  simp at h2
  have := inR_iff.1 (h2 x hx)
  omega

set_option maxHeartbeats 4000000 in
theorem ImplWindowByDraws_any {v dv : Value} {xss : List (List Int)} {draws : List Int} (s t : Int) (w : World) (ha : SlII w v xss) (hd : SlI w dv draws) :
    Calls Try.prog 30 #[.agg #[.int .i64 s, .int .i64 t, v], dv] w fun e w' => e = .returned (tup3 (winByR s t xss draws)) ∧ Below w.heap.size w w' := by
  have hmf : ∀ (fn : Fn) (first cap : Array Value) (w : World), (Instr.makeFunc fn first cap).run Try.prog w = .ok (.func fn first cap) w := fun _ _ _ _ => rfl
  have HA := Lib.hid (fun W (h : Below w.heap.size w W) => ha.below h)
  have HDR := Lib.hid (fun W (h : Below w.heap.size w W) => hd.below h)
  obtain ⟨a, ca, us, rfl, _, _, _, _, _⟩ := ha
  obtain ⟨da, dc, rfl, dl, dm, _⟩ := hd
  unfold maxLen at dm
  generalize hv : chainOk s t xss = V
  have HV := Lib.hid hv
  have bx := chBelow w s t (.slice a xss.length ca)
  have X := Lib.hid (chBox w s t (.slice a xss.length ca))
  cases V
  · clear hv
    go_enter Try.func30, Try.ntmps30
    go_wp2_with fail
    refine (ValidChain_any s t _ (HA.out _ bx)).mono ?_
    rintro e w1 ⟨rfl, b1⟩
    rw [HV.out]
    have hb1 := bx.trans (b1.mono bx.size)
    go_wp2
    go_ret3
    exact ⟨winByR_no HV.out, hb1⟩
  · obtain ⟨_, ht, _⟩ := chainOk_parts0 hv
    have ht1 : 1 ≤ t := ht.1
    have ht2 : t ≤ 60 := ht.2
    clear hv ht
    by_cases h64 : 64 < draws.length
    · have hno : drawsOk t draws = false := by unfold drawsOk; rw [decide_eq_false (by omega)]; rfl
      have HNO := Lib.hid hno
      clear hno
      go_enter Try.func30, Try.ntmps30
      go_wp2_with fail
      refine (ValidChain_any s t _ (HA.out _ bx)).mono ?_
      rintro e w1 ⟨rfl, b1⟩
      rw [HV.out]
      have hb1 := bx.trans (b1.mono bx.size)
      go_wp2
      go_ret3
      exact ⟨winByR_rng HV.out HNO.out, hb1⟩
    · have h64' : draws.length ≤ 64 := by omega
      generalize hA : (draws.any fun d => !inR d 0 (t - 1)) = A
      have HAN := Lib.hid hA
      have hok : drawsOk t draws = !A := by unfold drawsOk; rw [decide_eq_true h64', hA]; rfl
      have HOK := Lib.hid hok
      clear hA hok
      cases A
      · go_enter Try.func30, Try.ntmps30
        go_wp2_with fail
        refine (ValidChain_any s t _ (HA.out _ bx)).mono ?_
        rintro e w1 ⟨rfl, b1⟩
        rw [HV.out]
        have hb1 := bx.trans (b1.mono bx.size)
        have X1 := Lib.hid (X.out.below b1)
        clear b1
        go_wp2_with fail
        refine (ContainsFuncI_any _ (fun d => !inR d 0 (t - 1)) _ (HDR.out _ hb1) (fun W x hW _ => winClosure_any w.heap.size s t x W (X1.out.below hW) (HA.out _ (hb1.trans (hW.mono hb1.size))) ht1 ht2)).mono ?_
        rintro e w2 ⟨rfl, b2⟩
        rw [HAN.out]
        have hb2 := hb1.trans (b2.mono hb1.size)
        have X2 := X1.out.below b2
        obtain ⟨c00, c0, c1, c2⟩ := X2
        simp only [Nat.zero_add] at c0 c1 c2
        clear b2
        go_wp2_with fail
        refine (window_any s t _ (HA.out _ hb2) (HDR.out _ hb2) HV.out (drawsOk_B HOK.out)).mono ?_
        rintro e w3 ⟨rfl, b3⟩
        have hb3 := hb2.trans (b3.mono hb2.size)
        go_wp2
        go_ret3
        exact ⟨winByR_yes HV.out HOK.out, hb3⟩
      · go_enter Try.func30, Try.ntmps30
        go_wp2_with fail
        refine (ValidChain_any s t _ (HA.out _ bx)).mono ?_
        rintro e w1 ⟨rfl, b1⟩
        rw [HV.out]
        have hb1 := bx.trans (b1.mono bx.size)
        have X1 := Lib.hid (X.out.below b1)
        clear b1
        go_wp2_with fail
        refine (ContainsFuncI_any _ (fun d => !inR d 0 (t - 1)) _ (HDR.out _ hb1) (fun W x hW _ => winClosure_any w.heap.size s t x W (X1.out.below hW) (HA.out _ (hb1.trans (hW.mono hb1.size))) ht1 ht2)).mono ?_
        rintro e w2 ⟨rfl, b2⟩
        rw [HAN.out]
        have hb2 := hb1.trans (b2.mono hb1.size)
        go_wp2
        go_ret3
        exact ⟨winByR_rng HV.out HOK.out, hb2⟩

theorem any_take {p : Int → Bool} {l : List Int} {k : Nat} (h : (l.take k).any p = false) (hk : k < l.length) (he : p l[k] = false) : (l.take (k + 1)).any p = false := by
  rw [List.take_succ_eq_append_getElem hk, List.any_append, h]; simp [he]
theorem any_at {p : Int → Bool} {l : List Int} {k : Nat} (hk : k < l.length) (he : p l[k] = true) : l.any p = true := by
  rw [List.any_eq_true]; exact ⟨_, List.getElem_mem hk, he⟩
set_option maxHeartbeats 4000000 in
theorem SpecWindowByDraws_any {v dv : Value} {xss : List (List Int)} {draws : List Int} (s t : Int) (w : World) (ha : SlII w v xss) (hd : SlI w dv draws) :
    Calls Try.prog 27 #[.agg #[.int .i64 s, .int .i64 t, v], dv] w fun e w' => e = .returned (tup3 (winByR s t xss draws)) ∧ Below w.heap.size w w' := by
  have HA := Lib.hid (fun W (h : Below w.heap.size w W) => ha.below h)
  have HDR := Lib.hid (fun W (h : Below w.heap.size w W) => hd.below h)
  obtain ⟨a, ca, us, rfl, _, _, _, _, _⟩ := ha
  obtain ⟨da, dc, rfl, dl, dm, hdd⟩ := hd
  unfold maxLen at dm
  generalize hv : chainOk s t xss = V
  have HV := Lib.hid hv
  have bx := chBelow w s t (.slice a xss.length ca)
  have X := Lib.hid (chBox w s t (.slice a xss.length ca))
  cases V
  · clear hv
    go_enter Try.func27, Try.ntmps27
    go_wp2_with fail
    refine (l01Ok_any w.heap.size 0 s t _ X.out (HA.out _ bx)).mono ?_
    rintro e w1 ⟨rfl, b1⟩
    rw [HV.out]
    have hb1 := bx.trans (b1.mono bx.size)
    go_wp2
    go_ret3
    exact ⟨winByR_no HV.out, hb1⟩
  · obtain ⟨_, ht, _⟩ := chainOk_parts0 hv
    have ht1 : 1 ≤ t := ht.1
    have ht2 : t ≤ 60 := ht.2
    clear hv ht
    by_cases h64 : 64 < draws.length
    · have hno : drawsOk t draws = false := by unfold drawsOk; rw [decide_eq_false (by omega)]; rfl
      have HNO := Lib.hid hno
      clear hno
      go_enter Try.func27, Try.ntmps27
      go_wp2_with fail
      refine (l01Ok_any w.heap.size 0 s t _ X.out (HA.out _ bx)).mono ?_
      rintro e w1 ⟨rfl, b1⟩
      rw [HV.out]
      have hb1 := bx.trans (b1.mono bx.size)
      go_wp2
      go_ret3
      exact ⟨winByR_rng HV.out HNO.out, hb1⟩
    · have h64' : draws.length ≤ 64 := by omega
      go_enter Try.func27, Try.ntmps27
      go_wp2_with fail
      refine (l01Ok_any w.heap.size 0 s t _ X.out (HA.out _ bx)).mono ?_
      rintro e w1 ⟨rfl, b1⟩
      rw [HV.out]
      have hb1 := bx.trans (b1.mono bx.size)
      have X1 := Lib.hid (X.out.below b1)
      clear b1
      go_wp2
      go_loopw [7] (fun i wr => ∃ k : Nat, k ≤ draws.length ∧ i = .int .i64 k ∧ Hid ((draws.take k).any (fun d => !inR d 0 (t - 1)) = false) ∧ Below w1.heap.size w1 wr) (fun i _ => draws.length - (intOf i).toNat)
      case atStart => exact ⟨0, Nat.zero_le _, rfl, rfl, Below.refl _ _⟩
      case round =>
        obtain ⟨k, hk, rfl, hno, hbr⟩ := hrel
        have hbw := hb1.trans (hbr.mono hb1.size)
        by_cases hlt : k < draws.length
        · obtain ⟨db, doff, rfl, gd⟩ := (hdd.below hbw).one (i64s_get hlt)
          obtain ⟨_, c0, c1, c2⟩ := X1.out.below hbr
          simp only [Nat.zero_add] at c0 c1 c2
          have k1 := fun d os => cell_regrown gd d os
          have k2 := fun d os => cell_regrown c1 d os
          have i0 : (0 : Int) ≤ (k : Int) := by omega
          have i1 : (k : Int) < (draws.length : Int) := by omega
          generalize hp : inR draws[k] 0 (t - 1) = P
          have HP := Lib.hid hp
          clear hp c0 c1 c2 gd
          have hwr : IntKind.i64.wrap (t - 1) = t - 1 := IntWalk.i64_in _ (by omega)
          cases P
          · go_wp2_with fail
            refine wp_region_quiet_below (by kernel_rfl) (by kernel_rfl) ?_
            repeat (first | go_big_quiet_skip | quiet_step (exact Calls.regrown_of (l00In_b _ _ _ _)))
            refine wpQuiet_nil ?_
            intro _ hw'
            obtain ⟨⟨dq, osq⟩, hw''⟩ := hw'
            subst hw''
            have bq := hbw.trans ((below_regrown wr dq osq).mono hbw.size)
            generalize grow (redrawn wr dq) osq = wq at bq ⊢
            clear k1 k2 hwr
            rw [HP.out]
            go_wp2
            go_ret3
            exact ⟨winByR_rng HV.out (by unfold drawsOk; rw [any_at (k := k) hlt (by rw [HP.out]; rfl)]; simp), bq⟩
          · go_wp2_with fail
            refine wp_region_quiet_below (by kernel_rfl) (by kernel_rfl) ?_
            repeat (first | go_big_quiet_skip | quiet_step (exact Calls.regrown_of (l00In_b _ _ _ _)))
            refine wpQuiet_nil ?_
            intro _ hw'
            obtain ⟨⟨dq, osq⟩, hw''⟩ := hw'
            subst hw''
            have bq := hbr.trans ((below_regrown wr dq osq).mono hbr.size)
            generalize grow (redrawn wr dq) osq = wq at bq ⊢
            clear k1 k2 hwr
            rw [HP.out]
            go_wp2
            go_roundw
            case rel => exact ⟨k + 1, by omega, by go_num, any_take hno hlt (by rw [HP.out]; rfl), bq⟩
            case measure => simp [intOf]; omega
        · obtain rfl : k = draws.length := by omega
          have hok : drawsOk t draws = true := by unfold drawsOk; have := hno.out; rw [List.take_length] at this; rw [this, decide_eq_true h64']; rfl
          have HOK := Lib.hid hok
          clear hok
          go_wp2_with fail
          refine (l09Window_any w.heap.size 0 s t _ (X1.out.below hbr) (HA.out _ hbw) (HDR.out _ hbw) HV.out (drawsOk_B HOK.out)).mono ?_
          rintro e w3 ⟨rfl, b3⟩
          have hb3 := hbw.trans (b3.mono hbw.size)
          go_wp2
          go_ret3
          exact ⟨winByR_yes HV.out HOK.out, hb3⟩
end Go.Proofs.Ythheijekdpboaaa
