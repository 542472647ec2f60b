/-
  IsColouring, both sides, and the codes of graphs, colours and lists.
-/
import Derived.Test.YtmhpbkckmjdojaaColour
import Derived.Test.YtmhpbkckmjdojaaSrCol
import Derived.Test.YtmhpbkckmjdojaaSrAre
namespace Go.Proofs.Ytmhpbkckmjdojaa
open Go.RowKit Go.Sort
theorem all_false_at {p : Int → Bool} {l : List Int} {k : Nat} (h : k < l.length) (hp : p l[k] = false) : l.all p = false := by
  rw [List.all_eq_false]; exact ⟨l[k], List.getElem_mem h, by rw [hp]; simp⟩
theorem all_take_succ {p : Int → Bool} {l : List Int} {k : Nat} (h : (l.take k).all p = true) (hk : k < l.length) (hp : p l[k] = true) : (l.take (k + 1)).all p = true := by
  rw [List.take_succ_eq_append_getElem hk, List.all_append, h]; simp [hp]
set_option maxHeartbeats 1000000 in
theorem l08List_any {v u : Value} {cs : List Int} (b o : Nat) (n lo hi : Int) (w : World) (hc : GraphAt w b o n v) (hu : SlI w u cs) :
    Calls Try.prog 25 #[.pointer (some ⟨b, o, none⟩), u, .int .i64 lo, .int .i64 hi] w fun e w' => e = .returned (.bool (colsOk n lo hi cs)) ∧ w = w' := by
  obtain ⟨a, ca, rfl, hca, hca', hr⟩ := hu
  obtain ⟨zb, c0, _⟩ := hc
  unfold maxLen at hca'
  go_enter Try.func25, Try.ntmps25
  go_wp2
  go_loopw [9] (fun i wr => ∃ k : Nat, k ≤ cs.length ∧ i = .int .i64 k ∧ Hid ((cs.take k).all (fun c => inR c lo hi) = true) ∧ wr = w) (fun i _ => cs.length - (intOf i).toNat)
  case atStart => exact ⟨0, Nat.zero_le _, rfl, rfl, rfl⟩
  case round =>
    obtain ⟨k, hk, rfl, hok, rfl⟩ := hrel
    by_cases hlt : k < cs.length
    · obtain ⟨bb, off, rfl, gc⟩ := hr.one (i64s_get hlt)
      have i1 : (k : Int) < (cs.length : Int) := by omega
      generalize hq : inR cs[k] lo hi = q
      have HQ := Lib.hid hq
      clear hq
      cases q
      · go_wp2_with (go_at_call 36; refine (l00In_any _ _ _ _).mono ?_; rintro e w' ⟨rfl, rfl⟩; rw [HQ.out])
        go_ret
        exact ⟨rb (by unfold colsOk; rw [all_false_at hlt HQ.out]; rfl), rfl⟩
      · go_wp2_with (go_at_call 36; refine (l00In_any _ _ _ _).mono ?_; rintro e w' ⟨rfl, rfl⟩; rw [HQ.out])
        go_roundw
        case rel => exact ⟨k + 1, by omega, by go_num, all_take_succ hok.out hlt HQ.out, trivial⟩
        case measure => simp [intOf]; omega
    · obtain rfl : k = cs.length := by omega
      go_wp2
      go_ret
      exact ⟨rb (by
        unfold colsOk
        have := hok.out
        rw [List.take_length] at this
        rw [this, Bool.eq_iff_iff]
        simp), rfl⟩
def askedC (n : Int) (es : List (List Int)) (q : Int) (right : Bool) : Int := if graphOk n es = false then 1 else if inR q 1 4 = false then 2 else if right = false then 2 else 0
set_option maxHeartbeats 1000000 in
theorem l08Asked_any {v : Value} {es : List (List Int)} (b o : Nat) (n q : Int) (right : Bool) (w : World) (hc : GraphAt w b o n v) (ha : SlII w v es) :
    Calls Try.prog 24 #[.pointer (some ⟨b, o, none⟩), .int .i64 q, .bool right] w fun e w' => e = .returned (.int .i64 (askedC n es q right)) ∧ Below w.heap.size w w' := by
  generalize hg : graphOk n es = g
  generalize hq : inR q 1 4 = p
  have HG := Lib.hid hg
  have HQ := Lib.hid hq
  clear hg hq
  cases g
  · go_enter Try.func24, Try.ntmps24
    go_wp2_with (go_at_call 30; refine (l08Ok_any b o n _ hc ha).mono ?_; rintro e w1 ⟨rfl, b1⟩; rw [HG.out])
    go_ret
    exact ⟨ri (by unfold askedC; rw [HG.out]; rfl), b1⟩
  · cases p <;> cases right
    all_goals
      go_enter Try.func24, Try.ntmps24
      go_wp2_with (first
        | (go_at_call 30; refine (l08Ok_any b o n _ hc ha).mono ?_; rintro e w1 ⟨rfl, b1⟩; rw [HG.out])
        | (go_at_call 36; refine (l00In_any _ _ _ _).mono ?_; rintro e w' ⟨rfl, rfl⟩; rw [HQ.out]))
      go_ret
      exact ⟨ri (by unfold askedC; rw [HG.out, HQ.out]; rfl), b1⟩
/-- colours that a closure looks at -/
theorem colClosure_any {u cv : Value} {cs : List Int} {a c : Nat} (b : Nat) (w : World) (hc : CellsAt w b [cv]) (hcv : SlI w cv cs) (hu : SlI w u [(a : Int), (c : Int)]) (h1 : a < cs.length) (h2 : c < cs.length) :
    Calls Try.prog 72 #[u, .pointer (some ⟨b, 0, none⟩)] w fun e w' => e = .returned (.bool (decide (cs[a] = cs[c]))) ∧ Below w.heap.size w w' := by
  obtain ⟨ua, uc, rfl, _, _, ur⟩ := hu
  obtain ⟨va, vc, rfl, _, hvc, vr⟩ := hcv
  unfold maxLen at hvc
  obtain ⟨eb, eo, rfl, g0⟩ := ur.one (i64s_get (j := 0) (by simp))
  obtain ⟨eb', eo', he', g1⟩ := ur.one (i64s_get (j := 1) (by simp))
  simp only [Option.some.injEq, Addr.mk.injEq] at he'
  obtain ⟨rfl, rfl, _⟩ := he'
  obtain ⟨cb, co, rfl, ga⟩ := vr.one (i64s_get h1)
  obtain ⟨cb', co', he', gc⟩ := vr.one (i64s_get h2)
  simp only [Option.some.injEq, Addr.mk.injEq] at he'
  obtain ⟨rfl, rfl, _⟩ := he'
  have k0 := hc.get 0 _ rfl
  simp only [Nat.add_zero, List.getElem_cons_zero, List.getElem_cons_succ] at g0 g1
  have kk0 := fun d os => cell_regrown k0 d os
  have kg0 := fun d os => cell_regrown g0 d os
  have kg1 := fun d os => cell_regrown g1 d os
  have kga := fun d os => cell_regrown ga d os
  have kgc := fun d os => cell_regrown gc d os
  have i1 : (a : Int) < (cs.length : Int) := by omega
  have i2 : (c : Int) < (cs.length : Int) := by omega
  go_enter Try.func72, Try.ntmps72
  go_wp2_with fail
  refine wp_region_quiet_below (by kernel_rfl) (by kernel_rfl) ?_
  repeat (first | go_big_quiet_skip | quiet_step (fail))
  refine wpQuiet_nil ?_
  intro _ hw'
  obtain ⟨⟨dq, osq⟩, hw''⟩ := hw'
  subst hw''
  have bq0 := below_regrown w dq osq
  generalize grow (redrawn w dq) osq = wq at bq0 ⊢
  clear kk0 kg0 kg1 kga kgc
  go_wp2
  go_ret
  exact ⟨rb (by first | rfl | (simp; done)), bq0⟩
theorem areClosure_any (b1 b2 : Nat) (c lo q : Int) (w : World) (h1 : CellsAt w b1 [.int .i64 lo]) (h2 : CellsAt w b2 [.int .i64 q]) (hq1 : 1 ≤ q) (hq4 : q ≤ 4) :
    Calls Try.prog 71 #[.int .i64 c, .pointer (some ⟨b1, 0, none⟩), .pointer (some ⟨b2, 0, none⟩)] w fun e w' => e = .returned (.bool (!inR c lo (q - 1))) ∧ Below w.heap.size w w' := by
  have c1 := h1.get 0 _ rfl
  have c2 := h2.get 0 _ rfl
  go_enter Try.func71, Try.ntmps71
  go_wp2_with (go_at_call 41; refine (inRange_any _ _ _ _).mono ?_; rintro e w' ⟨rfl, rfl⟩)
  go_ret
  exact ⟨rfl, Below.refl _ _⟩
theorem all_any_not {l : List Int} {lo hi : Int} : (!(l.any fun c => !inR c lo hi)) = l.all fun c => inR c lo hi := by
  rw [Bool.eq_iff_iff]; simp
set_option maxHeartbeats 1000000 in
theorem areColours_any {v u : Value} {cs : List Int} (n q lo : Int) (w : World) (hv : ∃ a m c, v = .slice a m c) (hu : SlI w u cs) (hq1 : 1 ≤ q) (hq4 : q ≤ 4) :
    Calls Try.prog 48 #[.agg #[.int .i64 n, v], .int .i64 q, .int .i64 lo, u] w fun e w' => e = .returned (.bool (colsOk n lo (q - 1) cs)) ∧ Below w.heap.size w w' := by
  have hmf : ∀ (fn : Fn) (first cap : Array Value) (w : World), (Instr.makeFunc fn first cap).run Try.prog w = .ok (.func fn first cap) w := fun _ _ _ _ => rfl
  obtain ⟨a, m, ca, rfl⟩ := hv
  have b1 : Below w.heap.size w (w.alloc (.cells #[.int .i64 n, .slice a m ca] 29)) := (Below.refl _ _).alloc (Nat.le_refl _) _
  have b2 := b1.alloc (by simp) (.cells #[.int .i64 q] 2)
  have b3 := b2.alloc (by simp; omega) (.cells #[.int .i64 lo] 2)
  have X1 := Lib.hid ((CellsAt.new' (w.alloc (.cells #[.int .i64 n, .slice a m ca] 29)) [.int .i64 q] 2 (b := w.heap.size + 1) (by simp)).below ((Below.refl _ _).alloc (Nat.le_refl _) (.cells #[.int .i64 lo] 2)))
  have X2 := Lib.hid (CellsAt.new' ((w.alloc (.cells #[.int .i64 n, .slice a m ca] 29)).alloc (.cells #[.int .i64 q] 2)) [.int .i64 lo] 2 (b := w.heap.size + 1 + 1) (by simp))
  have HU := Lib.hid (hu.below b3)
  obtain ⟨ua, uc, rfl, _⟩ := hu
  by_cases hl : (cs.length : Int) = n
  · have ht : ((cs.length : Int) == n) = true := by simp [hl]
    have HL := Lib.hid hl
    clear hl
    go_enter Try.func48, Try.ntmps48
    go_wp2_with fail
    refine (ContainsFuncAre_any _ _ (fun c => !inR c lo (q - 1)) _ HU.out (fun W x hW _ => areClosure_any _ _ x lo q W (X2.out.below hW) (X1.out.below hW) hq1 hq4)).mono ?_
    rintro e w1 ⟨rfl, b4⟩
    go_wp2
    go_ret
    exact ⟨rb (by unfold colsOk; rw [← all_any_not]; simp [HL.out]), b3.trans (b4.mono b3.size)⟩
  · have ht : ((cs.length : Int) == n) = false := by simp [hl]
    have HL := Lib.hid hl
    clear hl
    go_enter Try.func48, Try.ntmps48
    go_wp2
    go_ret
    exact ⟨rb (by unfold colsOk; simp [HL.out]), b3⟩
def codeC (n : Int) (es : List (List Int)) (q : Int) (lists : List (List Int)) : Int := if graphOk n es = false then 1 else if inR q 1 4 = false then 2 else if lists.all (fun l => colsOk n 0 (q - 1) l) = false then 2 else 0
set_option maxHeartbeats 2000000 in
theorem colourCode_any {v u : Value} {es lists : List (List Int)} (n q : Int) (w : World) (ha : SlII w v es) (hu : SlII w u lists) :
    Calls Try.prog 47 #[.agg #[.int .i64 n, v], .int .i64 q, u] w fun e w' => e = .returned (.int .i64 (codeC n es q lists)) ∧ Below w.heap.size w w' := by
  have HA := Lib.hid (fun W (h : Below w.heap.size w W) => ha.below h)
  obtain ⟨a, ca, us, rfl, _⟩ := id ha
  obtain ⟨la, lc, lus, rfl, hlc, hlc', hul, hrd, hrow⟩ := hu
  unfold maxLen at hlc'
  have HG := Lib.hid (fun W (h : Below w.heap.size w W) => And.intro (hrd.below h) (fun i hi u hu => (hrow i hi u hu).below h))
  have HU := Lib.hid hul
  have bx : Below w.heap.size w (w.alloc (.cells #[.int .i64 n, .slice a es.length ca] 29)) := (Below.refl _ _).alloc (Nat.le_refl _) _
  have X := Lib.hid (graphAt_new w n (.slice a es.length ca))
  clear ha hul hrd hrow
  generalize hg : graphOk n es = g
  have HGG := Lib.hid hg
  clear hg
  generalize hq : inR q 1 4 = p
  have HQ := Lib.hid hq
  go_enter Try.func47, Try.ntmps47
  go_wp2_with fail
  refine (ImplValidGraph_any n _ (HA.out _ bx)).mono ?_
  rintro e w1 ⟨rfl, b1⟩
  rw [HGG.out]
  have hb1 := bx.trans (b1.mono bx.size)
  have X1 := Lib.hid (X.out.below b1)
  clear b1
  cases g
  · clear hq
    go_wp2
    go_ret
    exact ⟨ri (by unfold codeC; rw [HGG.out]; rfl), hb1⟩
  · cases p
    · clear hq
      go_wp2_with (go_at_call 41; refine (inRange_any _ _ _ _).mono ?_; rintro e w' ⟨rfl, rfl⟩; rw [HQ.out])
      go_ret
      exact ⟨ri (by unfold codeC; rw [HGG.out, HQ.out]; rfl), hb1⟩
    · obtain ⟨hq1, hq4⟩ := inR_iff.1 hq
      clear hq
      go_wp2_with (go_at_call 41; refine (inRange_any _ _ _ _).mono ?_; rintro e w' ⟨rfl, rfl⟩; rw [HQ.out])
      go_loopw [8, 17] (fun _ i wr => ∃ k : Nat, k ≤ lists.length ∧ i = .int .i64 k ∧ Hid ((lists.take k).all (fun l => colsOk n 0 (q - 1) l) = true) ∧ Below w1.heap.size w1 wr) (fun _ i _ => lists.length - (intOf i).toNat)
      case atStart => exact ⟨0, Nat.zero_le _, rfl, rfl, Below.refl _ _⟩
      case round =>
        obtain ⟨k, hk, rfl, hok, hbr⟩ := hrel
        have hbw := hb1.trans (hbr.mono hb1.size)
        by_cases hlt : k < lists.length
        · obtain ⟨x, bb, off, rfl, gc, sx⟩ := SlII.row HU.out (HG.out _ hbw).1 (HG.out _ hbw).2 hlt
          have i1 : (k : Int) < (lists.length : Int) := by omega
          obtain ⟨_, c0, c1⟩ := X1.out.below hbr
          simp only [Nat.zero_add] at c0 c1
          obtain ⟨xa, xc, rfl, _⟩ := id sx
          generalize hp : colsOk n 0 (q - 1) lists[k] = P
          have HP := Lib.hid hp
          have SX := Lib.hid sx
          clear hp sx
          go_wp2_with fail
          refine (areColours_any n q 0 _ ⟨_, _, _, rfl⟩ SX.out hq1 hq4).mono ?_
          rintro e w2 ⟨rfl, b2⟩
          rw [HP.out]
          have hb2 := hbr.trans (b2.mono hbr.size)
          clear b2 c0 c1
          cases P
          · go_wp2
            go_ret
            exact ⟨ri (by
              unfold codeC
              rw [HGG.out, HQ.out, show lists.all (fun l => colsOk n 0 (q - 1) l) = false from by rw [List.all_eq_false]; exact ⟨lists[k], List.getElem_mem hlt, by rw [HP.out]; simp⟩]
              rfl), hb1.trans (hb2.mono hb1.size)⟩
          · go_wp2
            go_roundw
            case rel => exact ⟨k + 1, by omega, by go_num, by unfold Hid at *; rw [List.take_succ_eq_append_getElem hlt, List.all_append, hok]; simp [HP], hb2⟩
            case measure => simp [intOf]; omega
        · obtain rfl : k = lists.length := by omega
          go_wp2
          go_ret
          exact ⟨ri (by
            have := hok.out
            rw [List.take_length] at this
            unfold codeC
            rw [HGG.out, HQ.out, this]; rfl), hbw⟩
/-- a new array with one slice in it, as a slice of slices -/
theorem slii_one {w : World} {u : Value} {xs : List Int} (hu : SlI w u xs) : SlII (w.alloc (.cells #[u] 25)) (.slice (some ⟨w.heap.size, 0, none⟩) 1 1) [xs] := by
  refine ⟨_, 1, [u], rfl, by simp, by simp [maxLen], rfl, rd_new w #[u] _, fun i hi x hx => ?_⟩
  cases i with
  | zero => simp at hx; subst hx; exact hu.below ((Below.refl _ _).alloc (Nat.le_refl _) _)
  | succ i => simp at hi
end Go.Proofs.Ytmhpbkckmjdojaa
