/-
  IsIndependent, both sides.
-/
import Derived.Test.YtmhpbkckmjdojaaIsCol
import Derived.Test.YtmhpbkckmjdojaaSrInd
import Derived.Test.YtmhpbkckmjdojaaDfs
namespace Go.Proofs.Ytmhpbkckmjdojaa
open Go.RowKit Go.Sort
def nearE (a b : Int) (e : List Int) : Bool := (decide (e.getD 0 0 = a) && decide (e.getD 1 0 = b)) || (decide (e.getD 0 0 = b) && decide (e.getD 1 0 = a))
def nearB (es : List (List Int)) (a b : Int) : Bool := es.any (nearE a b)
def apartI (es : List (List Int)) (s : List Int) (i k : Nat) : Bool := (List.range k).all fun j => !nearB es (s.getD i 0) (s.getD j 0)
def apartN (es : List (List Int)) (s : List Int) (k : Nat) : Bool := (List.range k).all fun i => apartI es s i i
def bothE (s : List Int) (e : List Int) : Bool := decide (e.getD 0 0 ∈ s) && decide (e.getD 1 0 ∈ s)
def indepB (es : List (List Int)) (s : List Int) : Bool := !(es.any (bothE s))
theorem indep_law {m : Nat} {es : List (List Int)} {s : List Int} (hE : EdgesB m es) : apartN es s s.length = indepB es s := by
  rw [Bool.eq_iff_iff]
  unfold apartN apartI indepB
  simp only [List.all_eq_true, List.mem_range, Bool.not_eq_true', List.any_eq_false]
  constructor
  · intro h e he hb
    obtain ⟨a, b, rfl, hab, _⟩ := hE e he
    simp only [bothE, List.getD_cons_zero, List.getD_cons_succ, Bool.and_eq_true, decide_eq_true_eq] at hb
    obtain ⟨i, hi, h1⟩ := List.getElem_of_mem hb.1
    obtain ⟨j, hj, h2⟩ := List.getElem_of_mem hb.2
    rcases Nat.lt_trichotomy i j with hij | hij | hij
    · have := h j hj i hij
      rw [getD_at hj, getD_at hi] at this
      unfold nearB at this
      rw [List.any_eq_false] at this
      have := this _ he
      simp [nearE, h1, h2] at this
    · subst hij
      rw [h1] at h2
      omega
    · have := h i hi j hij
      rw [getD_at hj, getD_at hi] at this
      unfold nearB at this
      rw [List.any_eq_false] at this
      have := this _ he
      simp [nearE, h1, h2] at this
  · intro h i hi j hij
    unfold nearB
    rw [List.any_eq_false]
    intro e he hn
    have hj : j < s.length := by omega
    rw [getD_at hi, getD_at hj] at hn
    have h2 := h e he
    unfold bothE at h2
    have m1 := List.getElem_mem hi
    have m2 := List.getElem_mem hj
    unfold nearE at hn
    simp only [Bool.or_eq_true, Bool.and_eq_true, decide_eq_true_eq] at hn
    rcases hn with ⟨e1, e2⟩ | ⟨e1, e2⟩
    · rw [e1, e2] at h2; simp [m1, m2] at h2
    · rw [e1, e2] at h2; simp [m1, m2] at h2
theorem nearE_two (a b : Int) (p q : Nat) : nearE a b [(p : Int), (q : Int)] = ((decide ((p : Int) = a) && decide ((q : Int) = b)) || (decide ((p : Int) = b) && decide ((q : Int) = a))) := rfl
set_option maxRecDepth 100000 in
set_option maxHeartbeats 4000000 in
theorem l08Near_any {v : Value} {es : List (List Int)} (b o m : Nat) (n x y : Int) (w : World) (hc : GraphAt w b o n v) (ha : SlII w v es) (hE : EdgesB m es) :
    Calls Try.prog 58 #[.pointer (some ⟨b, o, none⟩), .int .i64 x, .int .i64 y] w fun e w' => e = .returned (.bool (nearB es x y)) ∧ Below w.heap.size w w' := by
  obtain ⟨a, ca, us, rfl, hca, hca', hul, hrd, hrow⟩ := ha
  have HG := Lib.hid (fun W (h : Below w.heap.size w W) => And.intro (hrd.below h) (fun i hi u hu => (hrow i hi u hu).below h))
  have HC := Lib.hid (fun W (h : Below w.heap.size w W) => hc.below h)
  have HU := Lib.hid hul
  have HE := Lib.hid hE
  obtain ⟨_, c0, c1⟩ := hc
  unfold maxLen at hca'
  clear hul hrd hrow hE
  go_enter Try.func58, Try.ntmps58
  go_wp2
  clear c0 c1
  go_loopw [7, 8] (fun i _ wr => ∃ k : Nat, k ≤ es.length ∧ i = .int .i64 k ∧ Hid ((es.take k).any (nearE x y) = false) ∧ Below w.heap.size w wr) (fun i _ _ => es.length - (intOf i).toNat)
  case atStart => exact ⟨0, Nat.zero_le _, rfl, rfl, Below.refl _ _⟩
  case round =>
    obtain ⟨k, hk, rfl, hok, hbr⟩ := hrel
    obtain ⟨_, c0, c1⟩ := HC.out _ hbr
    by_cases hlt : k < es.length
    · obtain ⟨z, bb, off, rfl, gc, sx⟩ := SlII.row HU.out (HG.out _ hbr).1 (HG.out _ hbr).2 hlt
      have i1 : (k : Int) < (es.length : Int) := by omega
      obtain ⟨p, q, he, hpq, hqm⟩ := HE.out _ (List.getElem_mem hlt)
      rw [he] at sx
      have hne : nearE x y es[k] = ((decide ((p : Int) = x) && decide ((q : Int) = y)) || (decide ((p : Int) = y) && decide ((q : Int) = x))) := by rw [he]; exact nearE_two x y p q
      obtain ⟨ua, uc, rfl, _, _, ur⟩ := sx
      obtain ⟨eb, eo, rfl, g0⟩ := ur.one (i64s_get (j := 0) (by simp))
      obtain ⟨eb', eo', he', g1⟩ := ur.one (i64s_get (j := 1) (by simp))
      simp only [Option.some.injEq, Addr.mk.injEq] at he'
      obtain ⟨rfl, rfl, _⟩ := he'
      simp only [Nat.add_zero, List.getElem_cons_zero, List.getElem_cons_succ] at g0 g1
      have HN := Lib.hid hne
      obtain ⟨P, hP⟩ : ∃ P : Int, P = (p : Int) := ⟨_, rfl⟩
      obtain ⟨Q, hQ⟩ : ∃ Q : Int, Q = (q : Int) := ⟨_, rfl⟩
      rw [← hP] at g0
      rw [← hQ] at g1
      have hne2 : nearE x y es[k] = ((decide (P = x) && decide (Q = y)) || (decide (P = y) && decide (Q = x))) := by rw [hP, hQ]; exact HN.out
      have HN2 := Lib.hid hne2
      have j1 : (1 : Int) < ((([(p : Int), (q : Int)] : List Int).length : Nat) : Int) := by simp
      have j0 : (0 : Int) < ((([(p : Int), (q : Int)] : List Int).length : Nat) : Int) := by simp
      obtain ⟨d1, hd1⟩ : ∃ d, d = decide (P = x) := ⟨_, rfl⟩
      obtain ⟨d2, hd2⟩ : ∃ d, d = decide (Q = y) := ⟨_, rfl⟩
      obtain ⟨d3, hd3⟩ : ∃ d, d = decide (P = y) := ⟨_, rfl⟩
      obtain ⟨d4, hd4⟩ : ∃ d, d = decide (Q = x) := ⟨_, rfl⟩
      have t1 : (P == x) = d1 := by rw [hd1]; rfl
      have t2 : (Q == y) = d2 := by rw [hd2]; rfl
      have t3 : (P == y) = d3 := by rw [hd3]; rfl
      have t4 : (Q == x) = d4 := by rw [hd4]; rfl
      have HN3 : Hid (nearE x y es[k] = ((d1 && d2) || (d3 && d4))) := by unfold Hid; rw [HN2.out, hd1, hd2, hd3, hd4]
      clear hP hQ hne hne2 he hpq hqm hd1 hd2 hd3 hd4
      cases d1 <;> cases d2 <;> cases d3 <;> cases d4
      all_goals
        go_wp2
        first
          | (go_ret
             exact ⟨rb (any_atL hlt HN3.out).symm, hbr⟩)
          | (go_roundw
             case rel => exact ⟨k + 1, by omega, by go_num, any_take_succL hok.out hlt HN3.out, hbr⟩
             case measure => simp [intOf]; omega)
    · obtain rfl : k = es.length := by omega
      go_wp2
      go_ret
      exact ⟨rb (by
        have := hok.out
        rw [List.take_length] at this
        unfold nearB; rw [this]), hbr⟩
theorem l08Near_q {v : Value} {es : List (List Int)} {x y : Int} {q : Bool} (h : nearB es x y = q) (b o m : Nat) (n : Int) (w : World) (hc : GraphAt w b o n v) (ha : SlII w v es) (hE : EdgesB m es) :
    Calls Try.prog 58 #[.pointer (some ⟨b, o, none⟩), .int .i64 x, .int .i64 y] w fun e w' => e = .returned (.bool q) ∧ Below w.heap.size w w' :=
  (l08Near_any b o m n x y w hc ha hE).mono fun e w' ⟨h1, h2⟩ => ⟨by rw [h1, h], h2⟩
theorem range_all_succ {p : Nat → Bool} {k : Nat} (h : (List.range k).all p = true) (hp : p k = true) : (List.range (k + 1)).all p = true := by
  rw [List.range_succ, List.all_append, h]; simp [hp]
theorem range_all_no {p : Nat → Bool} {i k : Nat} (hi : i < k) (hp : p i = false) : (List.range k).all p = false := by
  rw [List.all_eq_false]; exact ⟨i, by simpa using hi, by rw [hp]; simp⟩
set_option maxRecDepth 100000 in
set_option maxHeartbeats 4000000 in
theorem l08Apart_any {v u : Value} {es : List (List Int)} {s : List Int} (b o m : Nat) (n : Int) (w : World) (hc : GraphAt w b o n v) (ha : SlII w v es) (hu : SlI w u s) (hE : EdgesB m es) :
    Calls Try.prog 37 #[.pointer (some ⟨b, o, none⟩), u] w fun e w' => e = .returned (.bool (apartN es s s.length)) ∧ Below w.heap.size w w' := by
  have HA := Lib.hid (fun W (h : Below w.heap.size w W) => ha.below h)
  have HC := Lib.hid (fun W (h : Below w.heap.size w W) => hc.below h)
  have HV := Lib.hid (fun W (h : Below w.heap.size w W) => hu.below h)
  have HE := Lib.hid hE
  obtain ⟨va, vc, rfl, _, hvc, _⟩ := hu
  unfold maxLen at hvc
  clear ha hc hE
  go_enter Try.func37, Try.ntmps37
  go_wp2
  go_loopw [5, 6] (fun i _ wr => ∃ k : Nat, k ≤ s.length ∧ i = .int .i64 k ∧ Hid (apartN es s k = true) ∧ Below w.heap.size w wr) (fun i _ _ => s.length - (intOf i).toNat)
  case atStart => exact ⟨0, Nat.zero_le _, rfl, rfl, Below.refl _ _⟩
  case round =>
    obtain ⟨k, hk, rfl, hok, hbr⟩ := hrel
    by_cases hlt : k < s.length
    · have i1 : (k : Int) < (s.length : Int) := by omega
      obtain ⟨wo, rfl⟩ : ∃ wo : World, wo = wr := ⟨_, rfl⟩
      go_wp2
      go_loopw [6] (fun i wr => ∃ j : Nat, j ≤ k ∧ i = .int .i64 j ∧ Hid (apartI es s k j = true) ∧ Below wo.heap.size wo wr) (fun i _ => k - (intOf i).toNat)
      case atStart => exact ⟨0, Nat.zero_le _, rfl, rfl, Below.refl _ _⟩
      case round =>
        obtain ⟨j, hj, rfl, hok2, hbo⟩ := hrel
        have hbw := hbr.trans (hbo.mono hbr.size)
        by_cases hjt : j < k
        · have hjs : j < s.length := by omega
          obtain ⟨_, _, he', _, _, vr⟩ := HV.out _ hbw
          simp only [Value.slice.injEq] at he'
          obtain ⟨rfl, _, rfl⟩ := he'
          obtain ⟨cb, co, rfl, gk⟩ := vr.one (i64s_get hlt)
          obtain ⟨cb', co', he', gj⟩ := vr.one (i64s_get hjs)
          simp only [Option.some.injEq, Addr.mk.injEq] at he'
          obtain ⟨rfl, rfl, _⟩ := he'
          have i2 : (0 : Int) ≤ (k : Int) := by omega
          have i3 : (0 : Int) ≤ (j : Int) := by omega
          have i4 : (j : Int) < (s.length : Int) := by omega
          have kk := fun d os => cell_regrown gk d os
          have kj := fun d os => cell_regrown gj d os
          generalize hq : nearB es s[k] s[j] = q
          have hterm : (!nearB es (s.getD k 0) (s.getD j 0)) = !q := by rw [getD_at hlt, getD_at hjs, hq]
          have HT := Lib.hid hterm
          have HQ := Lib.hid hq
          have C1 := Lib.hid (HC.out _ hbw)
          have A1 := Lib.hid (HA.out _ hbw)
          clear hterm hq
          cases q
          · go_wp2_with fail
            refine wp_region_quiet_below (by kernel_rfl) (by kernel_rfl) ?_
            repeat (first | go_big_quiet_skip | quiet_step (first | (with_reducible exact Calls.regrown_of (l08Near_q HQ.out b o m n _ (C1.out.below (below_regrown _ _ _)) (A1.out.below (below_regrown _ _ _)) HE.out))))
            refine wpQuiet_nil ?_
            intro _ hw'
            obtain ⟨⟨dq, osq⟩, hw''⟩ := hw'
            subst hw''
            have bq0 := below_regrown wr dq osq
            generalize grow (redrawn wr dq) osq = wq at bq0 ⊢
            have hb2 := hbo.trans (bq0.mono hbo.size)
            clear kk kj
            go_wp2
            go_roundw
            case rel => exact ⟨j + 1, by omega, by go_num, range_all_succ hok2.out HT.out, hb2⟩
            case measure => simp [intOf]; omega
          · go_wp2_with fail
            refine wp_region_quiet_below (by kernel_rfl) (by kernel_rfl) ?_
            repeat (first | go_big_quiet_skip | quiet_step (first | (with_reducible exact Calls.regrown_of (l08Near_q HQ.out b o m n _ (C1.out.below (below_regrown _ _ _)) (A1.out.below (below_regrown _ _ _)) HE.out))))
            refine wpQuiet_nil ?_
            intro _ hw'
            obtain ⟨⟨dq, osq⟩, hw''⟩ := hw'
            subst hw''
            have bq0 := below_regrown wr dq osq
            generalize grow (redrawn wr dq) osq = wq at bq0 ⊢
            clear kk kj
            go_wp2
            go_ret
            exact ⟨rb (range_all_no hlt (range_all_no hjt HT.out)).symm, hbw.trans (bq0.mono hbw.size)⟩
        · obtain rfl : j = k := by omega
          go_wp2
          go_roundw
          case rel => exact ⟨j + 1, by omega, by go_num, range_all_succ hok.out hok2.out, hbr.trans (hbo.mono hbr.size)⟩
          case measure => simp [intOf]; omega
    · obtain rfl : k = s.length := by omega
      go_wp2
      go_ret
      exact ⟨rb hok.out.symm, hbr⟩
theorem isNode_any {v : Value} (m : Nat) (x : Int) (w : World) (hv : ∃ a l c, v = .slice a l c) (h1 : 1 ≤ m) (h5 : m ≤ 100) :
    Calls Try.prog 40 #[.agg #[.int .i64 m, v], .int .i64 x] w fun e w' => e = .returned (.bool (inR x 0 ((m : Int) - 1))) ∧ Below w.heap.size w w' := by
  obtain ⟨a, l, c, rfl⟩ := hv
  go_enter Try.func40, Try.ntmps40
  go_wp2_with (go_at_call 41; refine (inRange_any _ _ _ _).mono ?_; rintro e w' ⟨rfl, rfl⟩)
  go_ret
  exact ⟨rfl, (Below.refl _ _).alloc (Nat.le_refl _) _⟩
set_option maxHeartbeats 4000000 in
theorem isNodes_any {v u : Value} {s : List Int} (m : Nat) (w : World) (hv : ∃ a l c, v = .slice a l c) (hu : SlI w u s) (h1 : 1 ≤ m) (h5 : m ≤ 100) :
    Calls Try.prog 62 #[.agg #[.int .i64 m, v], u] w fun en w' => en = .returned (.bool (riseN 0 ((m : Int) - 1) s s.length)) ∧ Below w.heap.size w w' := by
  obtain ⟨a, l, c, rfl⟩ := hv
  have bx : Below w.heap.size w (w.alloc (.cells #[.int .i64 m, .slice a l c] 29)) := (Below.refl _ _).alloc (Nat.le_refl _) _
  have X := Lib.hid (CellsAt.new w [.int .i64 m, .slice a l c] 29)
  have HV := Lib.hid (fun W (h : Below w.heap.size w W) => hu.below h)
  obtain ⟨va, vc, rfl, _, hvc, _⟩ := hu
  unfold maxLen at hvc
  go_enter Try.func62, Try.ntmps62
  go_wp2
  go_loopw [5, 6, 9] (fun _ _ i wr => ∃ k : Nat, k ≤ s.length ∧ i = .int .i64 k ∧ Hid (riseN 0 ((m : Int) - 1) s k = true) ∧ Below (w.alloc (.cells #[.int .i64 m, .slice a l c] 29)).heap.size (w.alloc (.cells #[.int .i64 m, .slice a l c] 29)) wr) (fun _ _ i _ => s.length - (intOf i).toNat)
  case atStart => exact ⟨0, Nat.zero_le _, rfl, rfl, Below.refl _ _⟩
  case round =>
    obtain ⟨k, hk, rfl, hok, hbr⟩ := hrel
    have hbw := bx.trans (hbr.mono bx.size)
    have x1 := X.out.below hbr
    have c0 := x1.get 0 _ rfl
    have c1 := x1.get 1 _ rfl
    by_cases hlt : k < s.length
    · have i1 : (k : Int) < (s.length : Int) := by omega
      obtain ⟨_, _, he', _, _, vr⟩ := HV.out _ hbw
      simp only [Value.slice.injEq] at he'
      obtain ⟨rfl, _, rfl⟩ := he'
      obtain ⟨cb, co, rfl, gk⟩ := vr.one (i64s_get hlt)
      generalize hx : s[k] = x at gk
      have hgd : s.getD k 0 = x := by rw [getD_at hlt, hx]
      have HGD := Lib.hid hgd
      generalize hq : inR x 0 ((m : Int) - 1) = q
      have HQ := Lib.hid hq
      have HNO := Lib.hid (fun h => riseN_false (lo := 0) (hi := (m : Int) - 1) (e := s) (k := k) h hlt)
      clear hx hgd hq x1
      go_wp2_with fail
      refine (isNode_any m x _ ⟨_, _, _, rfl⟩ h1 h5).mono ?_
      rintro e w2 ⟨rfl, b2⟩
      rw [HQ.out]
      have hb2 := hbr.trans (b2.mono hbr.size)
      have hbw2 := bx.trans (hb2.mono bx.size)
      clear c0 c1
      cases q
      · go_wp2
        go_ret
        exact ⟨rb (HNO.out (by rw [HGD.out, HQ.out]; rfl)).symm, hbw2⟩
      · by_cases hk0 : k = 0
        · have hk0' : decide (0 < k) = false := by simp; omega
          have HK0 := Lib.hid hk0
          clear hk0
          go_wp2
          go_roundw
          case rel => exact ⟨k + 1, by omega, by go_num, by unfold Hid riseN; rw [hok.out, HGD.out, HQ.out]; simp [HK0.out], hb2⟩
          case measure => simp [intOf]; omega
        · obtain ⟨j, hj⟩ : ∃ j, k = j + 1 := ⟨k - 1, by omega⟩
          have hjl : j < s.length := by omega
          obtain ⟨_, _, he', _, _, vr2⟩ := HV.out _ hbw2
          simp only [Value.slice.injEq] at he'
          obtain ⟨he1, _, rfl⟩ := he'
          subst he1
          obtain ⟨cb', co', he', gm⟩ := vr2.one (i64s_get hjl)
          simp only [Option.some.injEq, Addr.mk.injEq] at he'
          obtain ⟨rfl, rfl, _⟩ := he'
          generalize hy : s[j] = y at gm
          have hk1 : k - 1 = j := by omega
          have hgm : s.getD (k - 1) 0 = y := by rw [hk1, getD_at hjl, hy]
          have HGM := Lib.hid hgm
          have hkp : (0 : Int) < (k : Int) := by omega
          have gm2 : w2.cell? ⟨cb, co + (k - 1), none⟩ = some (.int .i64 y) := by rw [hk1]; exact gm
          have HK1 := Lib.hid hk1
          have HJ := Lib.hid hj
          have HK0 := Lib.hid hk0
          clear hy hgm gm hk1 hj hk0
          by_cases hxy : y < x
          · go_wp2
            go_roundw
            case rel => exact ⟨k + 1, by omega, by go_num, by unfold Hid riseN; rw [hok.out, HGD.out, HQ.out, HGM.out]; simp [hxy], hb2⟩
            case measure => simp [intOf]; omega
          · have hxy2 : x ≤ y := by omega
            go_wp2
            go_ret
            exact ⟨rb (HNO.out (by rw [HGD.out, HQ.out, HGM.out]; simp; omega)).symm, hbw2⟩
    · obtain rfl : k = s.length := by omega
      go_wp2
      go_ret
      exact ⟨rb hok.out.symm, hbw⟩
theorem Contains_q {u : Value} {xs : List Int} {x : Int} {q : Bool} (h : decide (x ∈ xs) = q) (w : World) (ha : SlI w u xs) :
    Calls Try.prog 64 #[u, .int .i64 x] w fun e w' => e = .returned (.bool q) ∧ Below w.heap.size w w' :=
  (Contains_any x w ha).mono fun e w' ⟨h1, h2⟩ => ⟨by rw [h1, h], by rw [h2]; exact Below.refl _ _⟩
theorem indClosure_any {u cv : Value} {s : List Int} {a c : Nat} (b : Nat) (w : World) (hc : CellsAt w b [cv]) (hcv : SlI w cv s) (hu : SlI w u [(a : Int), (c : Int)]) :
    Calls Try.prog 63 #[u, .pointer (some ⟨b, 0, none⟩)] w fun e w' => e = .returned (.bool (bothE s [(a : Int), (c : Int)])) ∧ Below w.heap.size w w' := by
  have HCV := Lib.hid hcv
  obtain ⟨ua, uc, rfl, _, _, ur⟩ := hu
  obtain ⟨va, vc, rfl, _, _, _⟩ := hcv
  obtain ⟨eb, eo, rfl, g0⟩ := ur.one (i64s_get (j := 0) (by simp))
  obtain ⟨eb', eo', he', g1⟩ := ur.one (i64s_get (j := 1) (by simp))
  simp only [Option.some.injEq, Addr.mk.injEq] at he'
  obtain ⟨rfl, rfl, _⟩ := he'
  have k0 := hc.get 0 _ rfl
  simp only [Nat.add_zero, List.getElem_cons_zero, List.getElem_cons_succ] at g0 g1
  have kk0 := fun d os => cell_regrown k0 d os
  have kg0 := fun d os => cell_regrown g0 d os
  have kg1 := fun d os => cell_regrown g1 d os
  have j1 : (1 : Int) < ((([(a : Int), (c : Int)] : List Int).length : Nat) : Int) := by simp
  have j0 : (0 : Int) < ((([(a : Int), (c : Int)] : List Int).length : Nat) : Int) := by simp
  have hb : bothE s [(a : Int), (c : Int)] = (decide ((a : Int) ∈ s) && decide ((c : Int) ∈ s)) := rfl
  generalize hd1 : decide ((a : Int) ∈ s) = d1 at hb
  generalize hd2 : decide ((c : Int) ∈ s) = d2 at hb
  have H1 := Lib.hid hd1
  have H2 := Lib.hid hd2
  have HB := Lib.hid hb
  clear hd1 hd2 hb
  cases d1
  all_goals
    go_enter Try.func63, Try.ntmps63
    go_wp2_with fail
    refine wp_region_quiet_below (by kernel_rfl) (by kernel_rfl) ?_
    repeat (first | go_big_quiet_skip | quiet_step (first | (with_reducible exact Calls.regrown_of (Contains_q H1.out _ (HCV.out.below (below_regrown _ _ _)))) | (with_reducible exact Calls.regrown_of (Contains_q H2.out _ (HCV.out.below (below_regrown _ _ _))))))
    refine wpQuiet_nil ?_
    intro _ hw'
    obtain ⟨⟨dq, osq⟩, hw''⟩ := hw'
    subst hw''
    have bq0 := below_regrown w dq osq
    generalize grow (redrawn w dq) osq = wq at bq0 ⊢
    clear kk0 kg0 kg1
    go_wp2
    go_ret
    exact ⟨rb (by rw [HB.out]; rfl), bq0⟩
set_option maxRecDepth 100000 in
set_option maxHeartbeats 1000000 in
theorem isIndependent_any {v u : Value} {es : List (List Int)} {s : List Int} (m : Nat) (n : Int) (w : World) (ha : SlII w v es) (hu : SlI w u s) (hE : EdgesB m es) :
    Calls Try.prog 42 #[.agg #[.int .i64 n, v], u] w fun e w' => e = .returned (.bool (indepB es s)) ∧ Below w.heap.size w w' := by
  have hmf : ∀ (fn : Fn) (first cap : Array Value) (w : World), (Instr.makeFunc fn first cap).run Try.prog w = .ok (.func fn first cap) w := fun _ _ _ _ => rfl
  have HA := Lib.hid (fun W (h : Below w.heap.size w W) => ha.below h)
  have HV := Lib.hid (fun W (h : Below w.heap.size w W) => hu.below h)
  have HE := Lib.hid hE
  obtain ⟨a, ca, us, rfl, _⟩ := ha
  obtain ⟨va, vc, rfl, _⟩ := hu
  have b1 : Below w.heap.size w (w.alloc (.cells #[.int .i64 n, .slice a es.length ca] 29)) := (Below.refl _ _).alloc (Nat.le_refl _) _
  have b2 := b1.alloc (by simp) (.cells #[.slice va s.length vc] 25)
  have X := Lib.hid (CellsAt.new' (w.alloc (.cells #[.int .i64 n, .slice a es.length ca] 29)) [.slice va s.length vc] 25 (b := w.heap.size + 1) (by simp))
  clear hE
  go_enter Try.func42, Try.ntmps42
  go_wp2_with fail
  refine (ContainsFuncInd_any _ (bothE s) _ (HA.out _ b2) (fun W x u hW hx hu => ?_)).mono ?_
  · obtain ⟨p, q, he, hpq, hqm⟩ := HE.out x hx
    subst he
    exact indClosure_any _ W (X.out.below hW) (HV.out _ (b2.trans (hW.mono b2.size))) hu
  · rintro e w1 ⟨rfl, b3⟩
    go_wp2
    go_ret
    exact ⟨rfl, b2.trans (b3.mono b2.size)⟩
def isIndR (n : Int) (es : List (List Int)) (s : List Int) : Bool × Int :=
  let code := askedC n es 1 (riseN 0 (IntKind.i64.wrap (n - 1)) s s.length)
  if code = 0 then (indepB es s, 0) else (false, code)
end Go.Proofs.Ytmhpbkckmjdojaa
