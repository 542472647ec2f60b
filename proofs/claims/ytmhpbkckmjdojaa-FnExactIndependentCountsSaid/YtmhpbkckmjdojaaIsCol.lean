/-
  IsColouring, both sides.
-/
import Derived.Test.YtmhpbkckmjdojaaColBits
namespace Go.Proofs.Ytmhpbkckmjdojaa
open Go.RowKit Go.Sort
def sameE (cs : List Int) (e : List Int) : Bool := decide (cs.getD (e.getD 0 0).toNat 0 = cs.getD (e.getD 1 0).toNat 0)
theorem properB_eq (es : List (List Int)) (cs : List Int) : properB es cs = !(es.any (sameE cs)) := rfl
theorem sameE_two {cs : List Int} {a c : Nat} (h1 : a < cs.length) (h2 : c < cs.length) : sameE cs [(a : Int), (c : Int)] = decide (cs[a] = cs[c]) := by
  simp [sameE, List.getD_eq_getElem?_getD, List.getElem?_eq_getElem h1, List.getElem?_eq_getElem h2]
theorem any_take_succL {α : Type} {p : α → Bool} {l : List α} {k : Nat} (h : (l.take k).any p = false) (hk : k < l.length) (he : p l[k] = false) : (l.take (k + 1)).any p = false := by
  rw [List.take_succ_eq_append_getElem hk, List.any_append, h]; simp [he]
theorem any_atL {α : Type} {p : α → Bool} {l : List α} {k : Nat} (hk : k < l.length) (he : p l[k] = true) : l.any p = true := by
  rw [List.any_eq_true]; exact ⟨_, List.getElem_mem hk, he⟩
set_option maxRecDepth 100000 in
set_option maxHeartbeats 2000000 in
theorem l08Proper_any {v u : Value} {es : List (List Int)} {cs : List Int} (b o m : Nat) (n : Int) (w : World) (hc : GraphAt w b o n v) (ha : SlII w v es) (hu : SlI w u cs) (hE : EdgesB m es) (hm : cs.length = m) :
    Calls Try.prog 46 #[.pointer (some ⟨b, o, none⟩), u] w fun e w' => e = .returned (.bool (properB es cs)) ∧ Below w.heap.size w w' := by
  obtain ⟨a, ca, us, rfl, hca, hca', hul, hrd, hrow⟩ := ha
  have HG := Lib.hid (fun W (h : Below w.heap.size w W) => And.intro (hrd.below h) (fun i hi u hu => (hrow i hi u hu).below h))
  have HC := Lib.hid (fun W (h : Below w.heap.size w W) => hc.below h)
  have HV := Lib.hid (fun W (h : Below w.heap.size w W) => hu.below h)
  have HU := Lib.hid hul
  have HE := Lib.hid hE
  have HM := Lib.hid hm
  obtain ⟨_, c0, c1⟩ := hc
  obtain ⟨va, vc, rfl, _, hvc, _⟩ := hu
  unfold maxLen at hca' hvc
  clear hul hrd hrow hE hm
  go_enter Try.func46, Try.ntmps46
  go_wp2
  clear c0 c1
  go_loopw [5] (fun i wr => ∃ k : Nat, k ≤ es.length ∧ i = .int .i64 k ∧ Hid ((es.take k).any (sameE cs) = false) ∧ Below w.heap.size w wr) (fun i _ => es.length - (intOf i).toNat)
  case atStart => exact ⟨0, Nat.zero_le _, rfl, rfl, Below.refl _ _⟩
  case round =>
    obtain ⟨k, hk, rfl, hok, hbr⟩ := hrel
    obtain ⟨_, c0, c1⟩ := HC.out _ hbr
    by_cases hlt : k < es.length
    · obtain ⟨x, bb, off, rfl, gc, sx⟩ := SlII.row HU.out (HG.out _ hbr).1 (HG.out _ hbr).2 hlt
      have i1 : (k : Int) < (es.length : Int) := by omega
      have i0 : (0 : Int) ≤ (k : Int) := by omega
      obtain ⟨p, q, he, hpq, hqm⟩ := HE.out _ (List.getElem_mem hlt)
      rw [he] at sx
      have hp1 : p < cs.length := by rw [HM.out]; omega
      have hq1 : q < cs.length := by rw [HM.out]; omega
      have hsame : sameE cs es[k] = decide (cs[p] = cs[q]) := by rw [he]; exact sameE_two hp1 hq1
      obtain ⟨ua, uc, rfl, _, _, ur⟩ := sx
      obtain ⟨_, _, he', _, _, vr⟩ := HV.out _ hbr
      simp only [Value.slice.injEq] at he'
      obtain ⟨rfl, _, rfl⟩ := he'
      obtain ⟨eb, eo, rfl, g0⟩ := ur.one (i64s_get (j := 0) (by simp))
      obtain ⟨eb', eo', he', g1⟩ := ur.one (i64s_get (j := 1) (by simp))
      simp only [Option.some.injEq, Addr.mk.injEq] at he'
      obtain ⟨rfl, rfl, _⟩ := he'
      obtain ⟨cb, co, rfl, ga⟩ := vr.one (i64s_get hp1)
      obtain ⟨cb', co', he', gq⟩ := vr.one (i64s_get hq1)
      simp only [Option.some.injEq, Addr.mk.injEq] at he'
      obtain ⟨rfl, rfl, _⟩ := he'
      simp only [Nat.add_zero, List.getElem_cons_zero, List.getElem_cons_succ] at g0 g1
      have kc1 := fun d os => cell_regrown c1 d os
      have kgc := fun d os => cell_regrown gc d os
      have kg0 := fun d os => cell_regrown g0 d os
      have kg1 := fun d os => cell_regrown g1 d os
      have kga := fun d os => cell_regrown ga d os
      have kgq := fun d os => cell_regrown gq d os
      have j1 : (p : Int) < (cs.length : Int) := by omega
      have j2 : (q : Int) < (cs.length : Int) := by omega
      have j3 : (0 : Int) < (([(p : Int), (q : Int)].length : Nat) : Int) := by simp
      have j4 : (1 : Int) < (([(p : Int), (q : Int)].length : Nat) : Int) := by simp
      have HS := Lib.hid hsame
      clear he hpq hqm hsame
      generalize hd : decide (cs[p] = cs[q]) = d at HS
      have HD := Lib.hid hd
      clear hd
      go_wp2_with fail
      refine wp_region_quiet_below (by kernel_rfl) (by kernel_rfl) ?_
      repeat (first | go_big_quiet_skip | quiet_step (first | fail))
      refine wpQuiet_nil ?_
      intro _ hw'
      obtain ⟨⟨dq, osq⟩, hw''⟩ := hw'
      subst hw''
      have bq0 := below_regrown wr dq osq
      generalize grow (redrawn wr dq) osq = wq at bq0 ⊢
      have hb2 := hbr.trans (bq0.mono hbr.size)
      clear kc1 kgc kg0 kg1 kga kgq
      have hd2 := HD.out
      cases d
      · have ht : (cs[p] == cs[q]) = false := by simpa using hd2
        clear hd2
        go_wp2
        go_roundw
        case rel => exact ⟨k + 1, by omega, by go_num, any_take_succL hok.out hlt HS.out, hb2⟩
        case measure => simp [intOf]; omega
      · have ht : (cs[p] == cs[q]) = true := by simpa using hd2
        clear hd2
        go_wp2
        go_ret
        exact ⟨rb (by rw [properB_eq, any_atL hlt HS.out]; rfl), hb2⟩
    · obtain rfl : k = es.length := by omega
      go_wp2
      go_ret
      exact ⟨rb (by
        have := hok.out
        rw [List.take_length] at this
        rw [properB_eq, this]; rfl), hbr⟩
set_option maxHeartbeats 1000000 in
theorem isColouring_any {v u : Value} {es : List (List Int)} {cs : List Int} (m : Nat) (n : Int) (w : World) (ha : SlII w v es) (hu : SlI w u cs) (hE : EdgesB m es) (hm : cs.length = m) :
    Calls Try.prog 50 #[.agg #[.int .i64 n, v], u] w fun e w' => e = .returned (.bool (properB es cs)) ∧ Below w.heap.size w w' := by
  have hmf : ∀ (fn : Fn) (first cap : Array Value) (w : World), (Instr.makeFunc fn first cap).run Try.prog w = .ok (.func fn first cap) w := fun _ _ _ _ => rfl
  have HA := Lib.hid (fun W (h : Below w.heap.size w W) => ha.below h)
  have HV := Lib.hid (fun W (h : Below w.heap.size w W) => hu.below h)
  have HE := Lib.hid hE
  have HM := Lib.hid hm
  obtain ⟨a, ca, us, rfl, _⟩ := ha
  obtain ⟨va, vc, rfl, _⟩ := hu
  have b1 : Below w.heap.size w (w.alloc (.cells #[.int .i64 n, .slice a es.length ca] 29)) := (Below.refl _ _).alloc (Nat.le_refl _) _
  have b2 := b1.alloc (by simp) (.cells #[.slice va cs.length vc] 25)
  have X := Lib.hid (CellsAt.new' (w.alloc (.cells #[.int .i64 n, .slice a es.length ca] 29)) [.slice va cs.length vc] 25 (b := w.heap.size + 1) (by simp))
  clear hE hm
  go_enter Try.func50, Try.ntmps50
  go_wp2_with fail
  refine (ContainsFuncCol_any _ (sameE cs) _ (HA.out _ b2) (fun W x u hW hx hu => ?_)).mono ?_
  · obtain ⟨p, q, he, hpq, hqm⟩ := HE.out x hx
    have hp1 : p < cs.length := by rw [HM.out]; omega
    have hq1 : q < cs.length := by rw [HM.out]; omega
    subst he
    rw [sameE_two hp1 hq1]
    exact colClosure_any _ W (X.out.below hW) (HV.out _ (b2.trans (hW.mono b2.size))) hu hp1 hq1
  · rintro e w1 ⟨rfl, b3⟩
    go_wp2
    go_ret
    exact ⟨rb (properB_eq es cs).symm, b2.trans (b3.mono b2.size)⟩
def tupBI (r : Bool × Int) : Value := .tuple #[.bool r.1, .int .i64 r.2]
def isColR (n : Int) (es : List (List Int)) (q : Int) (cs : List Int) : Bool × Int :=
  let code := askedC n es q (colsOk n 0 (IntKind.i64.wrap (q - 1)) cs)
  if code = 0 then (properB es cs, 0) else (false, code)
theorem askedC_ok {n q : Int} {es : List (List Int)} {r : Bool} (h : askedC n es q r = 0) : graphOk n es = true ∧ 1 ≤ q ∧ q ≤ 4 ∧ r = true := by
  unfold askedC at h
  split at h
  · simp at h
  · rename_i h1
    split at h
    · simp at h
    · rename_i h2
      split at h
      · simp at h
      · rename_i h3
        have h2' : inR q 1 4 = true := by simpa using h2
        have := inR_iff.1 h2'
        exact ⟨by simpa using h1, this.1, this.2, by simpa using h3⟩
theorem askedC_rng {n q : Int} {es : List (List Int)} {r : Bool} : askedC n es q r = 0 ∨ askedC n es q r = 1 ∨ askedC n es q r = 2 := by
  unfold askedC
  split
  · simp
  · split
    · simp
    · split <;> simp
theorem colsOk_len {n lo hi : Int} {cs : List Int} (h : colsOk n lo hi cs = true) : (cs.length : Int) = n ∧ ∀ c ∈ cs, lo ≤ c ∧ c ≤ hi := by
  unfold colsOk at h
  rw [Bool.and_eq_true, List.all_eq_true] at h
  exact ⟨of_decide_eq_true h.2, fun c hc => inR_iff.1 (h.1 c hc)⟩
theorem codeC_one {n q : Int} {es : List (List Int)} {cs : List Int} : codeC n es q [cs] = askedC n es q (colsOk n 0 (IntKind.i64.wrap (q - 1)) cs) := by
  unfold codeC askedC
  split
  · rfl
  · split
    · rfl
    · rename_i h
      have h2' : inR q 1 4 = true := by simpa using h
      have := inR_iff.1 h2'
      rw [IntWalk.i64_in _ (by omega)]
      simp
end Go.Proofs.Ytmhpbkckmjdojaa
