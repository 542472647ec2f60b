/-
  IsIndependent, both sides.
-/
import Derived.Test.YtbhhihaaiiaagaaIsCol
import Derived.Test.YtbhhihaaiiaagaaSrInd
import Derived.Test.YtbhhihaaiiaagaaDfs
namespace Go.Proofs.Ytbhhihaaiiaagaa
open Go.RowKit Go.Sort
def nearE (a b : Int) (e : List Int) : Bool := (decide (e.getD 0 0 = a) && decide (e.getD 1 0 = b)) || (decide (e.getD 0 0 = b) && decide (e.getD 1 0 = a))
def nearB (es : List (List Int)) (a b : Int) : Bool := es.any (nearE a b)
def apartI (es : List (List Int)) (s : List Int) (i k : Nat) : Bool := (List.range k).all fun j => !nearB es (s.getD i 0) (s.getD j 0)
def apartN (es : List (List Int)) (s : List Int) (k : Nat) : Bool := (List.range k).all fun i => apartI es s i i
def bothE (s : List Int) (e : List Int) : Bool := decide (e.getD 0 0 ∈ s) && decide (e.getD 1 0 ∈ s)
def indepB (es : List (List Int)) (s : List Int) : Bool := !(es.any (bothE s))
theorem indep_law {m : Nat} {es : List (List Int)} {s : List Int} (hE : EdgesB m es) : apartN es s s.length = indepB es s := by
  rw [Bool.eq_iff_iff]
  unfold apartN apartI indepB
  simp only [List.all_eq_true, List.mem_range, Bool.not_eq_true', List.any_eq_false]
  constructor
  · intro h e he hb
    obtain ⟨a, b, rfl, hab, _⟩ := hE e he
    simp only [bothE, List.getD_cons_zero, List.getD_cons_succ, Bool.and_eq_true, decide_eq_true_eq] at hb
    obtain ⟨i, hi, h1⟩ := List.getElem_of_mem hb.1
    obtain ⟨j, hj, h2⟩ := List.getElem_of_mem hb.2
    rcases Nat.lt_trichotomy i j with hij | hij | hij
    · have := h j hj i hij
      rw [getD_at hj, getD_at hi] at this
      unfold nearB at this
      rw [List.any_eq_false] at this
      have := this _ he
      simp [nearE, h1, h2] at this
    · subst hij
      rw [h1] at h2
      omega
    · have := h i hi j hij
      rw [getD_at hj, getD_at hi] at this
      unfold nearB at this
      rw [List.any_eq_false] at this
      have := this _ he
      simp [nearE, h1, h2] at this
  · intro h i hi j hij
    unfold nearB
    rw [List.any_eq_false]
    intro e he hn
    have hj : j < s.length := by omega
    rw [getD_at hi, getD_at hj] at hn
    have h2 := h e he
    unfold bothE at h2
    have m1 := List.getElem_mem hi
    have m2 := List.getElem_mem hj
    unfold nearE at hn
    simp only [Bool.or_eq_true, Bool.and_eq_true, decide_eq_true_eq] at hn
    rcases hn with ⟨e1, e2⟩ | ⟨e1, e2⟩
    · rw [e1, e2] at h2; simp [m1, m2] at h2
    · rw [e1, e2] at h2; simp [m1, m2] at h2
theorem nearE_two (a b : Int) (p q : Nat) : nearE a b [(p : Int), (q : Int)] = ((decide ((p : Int) = a) && decide ((q : Int) = b)) || (decide ((p : Int) = b) && decide ((q : Int) = a))) := rfl
theorem range_all_succ {p : Nat → Bool} {k : Nat} (h : (List.range k).all p = true) (hp : p k = true) : (List.range (k + 1)).all p = true := by
  rw [List.range_succ, List.all_append, h]; simp [hp]
theorem range_all_no {p : Nat → Bool} {i k : Nat} (hi : i < k) (hp : p i = false) : (List.range k).all p = false := by
  rw [List.all_eq_false]; exact ⟨i, by simpa using hi, by rw [hp]; simp⟩
theorem Contains_q {u : Value} {xs : List Int} {x : Int} {q : Bool} (h : decide (x ∈ xs) = q) (w : World) (ha : SlI w u xs) :
    Calls Try.prog 46 #[u, .int .i64 x] w fun e w' => e = .returned (.bool q) ∧ Below w.heap.size w w' :=
  (Contains_any x w ha).mono fun e w' ⟨h1, h2⟩ => ⟨by rw [h1, h], by rw [h2]; exact Below.refl _ _⟩
theorem indClosure_any {u cv : Value} {s : List Int} {a c : Nat} (b : Nat) (w : World) (hc : CellsAt w b [cv]) (hcv : SlI w cv s) (hu : SlI w u [(a : Int), (c : Int)]) :
    Calls Try.prog 56 #[u, .pointer (some ⟨b, 0, none⟩)] w fun e w' => e = .returned (.bool (bothE s [(a : Int), (c : Int)])) ∧ Below w.heap.size w w' := by
  have HCV := Lib.hid hcv
  obtain ⟨ua, uc, rfl, _, _, ur⟩ := hu
  obtain ⟨va, vc, rfl, _, _, _⟩ := hcv
  obtain ⟨eb, eo, rfl, g0⟩ := ur.one (i64s_get (j := 0) (by simp))
  obtain ⟨eb', eo', he', g1⟩ := ur.one (i64s_get (j := 1) (by simp))
  simp only [Option.some.injEq, Addr.mk.injEq] at he'
  obtain ⟨rfl, rfl, _⟩ := he'
  have k0 := hc.get 0 _ rfl
  simp only [Nat.add_zero, List.getElem_cons_zero, List.getElem_cons_succ] at g0 g1
  have kk0 := fun d os => cell_regrown k0 d os
  have kg0 := fun d os => cell_regrown g0 d os
  have kg1 := fun d os => cell_regrown g1 d os
  have j1 : (1 : Int) < ((([(a : Int), (c : Int)] : List Int).length : Nat) : Int) := by simp
  have j0 : (0 : Int) < ((([(a : Int), (c : Int)] : List Int).length : Nat) : Int) := by simp
  have hb : bothE s [(a : Int), (c : Int)] = (decide ((a : Int) ∈ s) && decide ((c : Int) ∈ s)) := rfl
  generalize hd1 : decide ((a : Int) ∈ s) = d1 at hb
  generalize hd2 : decide ((c : Int) ∈ s) = d2 at hb
  have H1 := Lib.hid hd1
  have H2 := Lib.hid hd2
  have HB := Lib.hid hb
  clear hd1 hd2 hb
  cases d1
  all_goals
    go_enter Try.func56, Try.ntmps56
    go_wp2_with fail
    refine wp_region_quiet_below (by kernel_rfl) (by kernel_rfl) ?_
    repeat (first | go_big_quiet_skip | quiet_step (first | (with_reducible exact Calls.regrown_of (Contains_q H1.out _ (HCV.out.below (below_regrown _ _ _)))) | (with_reducible exact Calls.regrown_of (Contains_q H2.out _ (HCV.out.below (below_regrown _ _ _))))))
    refine wpQuiet_nil ?_
    intro _ hw'
    obtain ⟨⟨dq, osq⟩, hw''⟩ := hw'
    subst hw''
    have bq0 := below_regrown w dq osq
    generalize grow (redrawn w dq) osq = wq at bq0 ⊢
    clear kk0 kg0 kg1
    go_wp2
    go_ret
    exact ⟨rb (by rw [HB.out]; rfl), bq0⟩
set_option maxRecDepth 100000 in
set_option maxHeartbeats 1000000 in
theorem isIndependent_any {v u : Value} {es : List (List Int)} {s : List Int} (m : Nat) (n : Int) (w : World) (ha : SlII w v es) (hu : SlI w u s) (hE : EdgesB m es) :
    Calls Try.prog 49 #[.agg #[.int .i64 n, v], u] w fun e w' => e = .returned (.bool (indepB es s)) ∧ Below w.heap.size w w' := by
  have hmf : ∀ (fn : Fn) (first cap : Array Value) (w : World), (Instr.makeFunc fn first cap).run Try.prog w = .ok (.func fn first cap) w := fun _ _ _ _ => rfl
  have HA := Lib.hid (fun W (h : Below w.heap.size w W) => ha.below h)
  have HV := Lib.hid (fun W (h : Below w.heap.size w W) => hu.below h)
  have HE := Lib.hid hE
  obtain ⟨a, ca, us, rfl, _⟩ := ha
  obtain ⟨va, vc, rfl, _⟩ := hu
  have b1 : Below w.heap.size w (w.alloc (.cells #[.int .i64 n, .slice a es.length ca] 29)) := (Below.refl _ _).alloc (Nat.le_refl _) _
  have b2 := b1.alloc (by simp) (.cells #[.slice va s.length vc] 26)
  have X := Lib.hid (CellsAt.new' (w.alloc (.cells #[.int .i64 n, .slice a es.length ca] 29)) [.slice va s.length vc] 26 (b := w.heap.size + 1) (by simp))
  clear hE
  go_enter Try.func49, Try.ntmps49
  go_wp2_with fail
  refine (ContainsFuncInd_any _ (bothE s) _ (HA.out _ b2) (fun W x u hW hx hu => ?_)).mono ?_
  · obtain ⟨p, q, he, hpq, hqm⟩ := HE.out x hx
    subst he
    exact indClosure_any _ W (X.out.below hW) (HV.out _ (b2.trans (hW.mono b2.size))) hu
  · rintro e w1 ⟨rfl, b3⟩
    go_wp2
    go_ret
    exact ⟨rfl, b2.trans (b3.mono b2.size)⟩
def isIndR (n : Int) (es : List (List Int)) (s : List Int) : Bool × Int :=
  let code := askedC n es 1 (riseN 0 (IntKind.i64.wrap (n - 1)) s s.length)
  if code = 0 then (indepB es s, 0) else (false, code)
end Go.Proofs.Ytbhhihaaiiaagaa
