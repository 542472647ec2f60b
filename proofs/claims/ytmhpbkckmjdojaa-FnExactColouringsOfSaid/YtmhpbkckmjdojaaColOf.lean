/-
  ColouringsOf, both sides.
-/
import Derived.Test.YtmhpbkckmjdojaaAllS
import Derived.Test.YtmhpbkckmjdojaaCountS
import Derived.Test.YtmhpbkckmjdojaaDeckAt
namespace Go.Proofs.Ytmhpbkckmjdojaa
open Go.RowKit Go.Sort
def partC (n : Int) (es : List (List Int)) (q : Int) (part : List Int) : Int := askedC n es q (colsOk n (-1) (IntKind.i64.wrap (q - 1)) part)
def colOfR (n : Int) (es : List (List Int)) (q : Int) (part : List Int) : List (List Int) × Int :=
  if partC n es q part = 0 then (if 260 < (colD q.toNat part es n.toNat []).length then ([], 3) else (colD q.toNat part es n.toNat [], 0)) else ([], partC n es q part)
theorem partC_law {n q : Int} {es : List (List Int)} {part : List Int} : partC n es q part = if askedC n es q true = 0 then (if colsOk n (-1) (q - 1) part = true then 0 else 2) else askedC n es q true := by
  by_cases h : askedC n es q true = 0
  · obtain ⟨hg, h1, h4, _⟩ := askedC_ok h
    rw [if_pos h]
    unfold partC askedC
    rw [IntWalk.i64_in _ (by omega), hg, inR_iff.2 ⟨h1, h4⟩]
    cases colsOk n (-1) (q - 1) part <;> rfl
  · rw [if_neg h]
    unfold partC
    unfold askedC at h ⊢
    split
    · rfl
    · rename_i h1
      rw [if_neg h1] at h
      split
      · rfl
      · rename_i h2
        rw [if_neg h2] at h
        simp at h
theorem partC_ok {n q : Int} {es : List (List Int)} {part : List Int} (h : partC n es q part = 0) : ∃ m k : Nat, n = (m : Int) ∧ q = (k : Int) ∧ 1 ≤ m ∧ m ≤ 5 ∧ 1 ≤ k ∧ k ≤ 4 ∧ EdgesB m es ∧ part.length = m ∧ IntKind.i64.wrap (q - 1) = q - 1 := by
  obtain ⟨hg, h1, h2, h3⟩ := askedC_ok h
  obtain ⟨m, rfl, hm1, hm5, hE, hl⟩ := graphOk_all hg
  obtain ⟨k, rfl⟩ := Int.eq_ofNat_of_zero_le (show 0 ≤ q by omega)
  have hc := (colsOk_len h3).1
  exact ⟨m, k, rfl, rfl, hm1, hm5, by omega, by omega, hE, by omega, IntWalk.i64_in _ (by omega)⟩
theorem colD_rows (q : Nat) (part : List Int) (es : List (List Int)) : ∀ (f : Nat) (l : List Int), ∀ x ∈ colD q part es f l, x.length = l.length + f
  | 0, l, x, hx => by
    unfold colD at hx
    split at hx
    · simp at hx; rw [hx]; rfl
    · simp at hx
  | f + 1, l, x, hx => by
    unfold colD at hx
    rw [List.mem_flatMap] at hx
    obtain ⟨c, _, hx⟩ := hx
    have := colD_rows q part es f (l ++ [c]) x hx
    rw [this, List.length_append]; simp; omega
theorem sumL_rows {k : Nat} : ∀ {l : List (List Int)}, (∀ x ∈ l, x.length ≤ k) → sumL l ≤ l.length * k
  | [], _ => by simp [sumL]
  | x :: r, h => by
    have e : sumL (x :: r) = x.length + sumL r := by simp [sumL]
    have h1 := sumL_rows (l := r) (fun y hy => h y (by simp [hy]))
    have h2 := h x (by simp)
    rw [e, List.length_cons, Nat.succ_mul]; omega
theorem colOfR_len (n : Int) (es : List (List Int)) (q : Int) (part : List Int) : sumL (colOfR n es q part).1 ≤ 2000 := by
  unfold colOfR
  split
  · rename_i h
    obtain ⟨m, k, rfl, rfl, _, hm, _⟩ := partC_ok h
    split
    · simp [sumL]
    · rename_i h2
      dsimp only
      rw [Int.toNat_natCast, Int.toNat_natCast] at h2 ⊢
      have h3 := sumL_rows (k := 5) (l := colD k part es m []) (fun x hx => by have := colD_rows k part es m [] x hx; simp at this; omega)
      omega
  · simp [sumL]
/-- fresh rows and a code -/
def FreshIIC (w : World) (R : List (List Int) × Int) (e : Ending) (w' : World) : Prop := ∃ v, e = .returned (tupVC v R.2) ∧ OwnII w' w.heap.size v R.1 ∧ Below w.heap.size w w'
set_option maxHeartbeats 2000000 in
theorem SpecColouringsOf_any {v u : Value} {es : List (List Int)} {part : List Int} (n q : Int) (w : World) (ha : SlII w v es) (hu : SlI w u part) :
    Calls Try.prog 7 #[.agg #[.int .i64 n, v], .int .i64 q, u] w (FreshIIC w (colOfR n es q part)) := by
  have HA := Lib.hid (fun W (h : Below w.heap.size w W) => ha.below h)
  have HV := Lib.hid (fun W (h : Below w.heap.size w W) => hu.below h)
  obtain ⟨a, ca, us, rfl, _⟩ := ha
  obtain ⟨va, vc, rfl, _⟩ := hu
  have b1 : Below w.heap.size w (w.alloc (.cells #[.int .i64 n, .slice a es.length ca] 29)) := (Below.refl _ _).alloc (Nat.le_refl _) _
  have X := Lib.hid (graphAt_new w n (.slice a es.length ca))
  have hR : colOfR n es q part = if partC n es q part = 0 then (if 260 < (colD q.toNat part es n.toNat []).length then ([], 3) else (colD q.toNat part es n.toNat [], 0)) else ([], partC n es q part) := rfl
  have e0 := Lib.hid (fun W : World => OwnII.empty W (base := W.heap.size) (Nat.le_refl _))
  obtain ⟨hi, hhi⟩ : ∃ hi, IntKind.i64.wrap (q - 1) = hi := ⟨_, rfl⟩
  have hP : partC n es q part = askedC n es q (colsOk n (-1) hi part) := by unfold partC; rw [hhi]
  have hok := fun h => partC_ok (n := n) (q := q) (es := es) (part := part) h
  generalize hcd : partC n es q part = cd at hR hP hok
  generalize hr : colsOk n (-1) hi part = r at hP
  have HR := Lib.hid hR
  have HP := Lib.hid hP.symm
  have HCR := Lib.hid hr
  have HOK := Lib.hid hok
  have HHI := Lib.hid hhi
  clear hR hP hcd hr hok hhi
  have hw : wrap64 (q - 1) = hi := by rw [← IntWalk.i64_left]; exact HHI.out
  have hw0 := HHI.out
  by_cases hz : cd = 0
  · obtain ⟨m, k, rfl, rfl, hm1, hm5, hk1, hk4, hE, hl, _⟩ := HOK.out hz
    have ht : (cd != 0) = false := by simp [hz]
    have HZ := Lib.hid hz
    have HE := Lib.hid hE
    have HL := Lib.hid hl
    have hlaw := col_law (q := k) (m := m) (by omega) part es
    have HLAW := Lib.hid hlaw
    clear hz hE hl hlaw HOK
    go_enter Try.func7, Try.ntmps7
    go_wp2_with (first
      | (go_at_call 25; refine (l08List_any w.heap.size 0 m (-1) hi _ X.out (HV.out _ b1)).mono ?_; rintro e w' ⟨rfl, rfl⟩; rw [HCR.out])
      | (go_at_call 24; refine (l08Asked_any w.heap.size 0 m k r _ X.out (HA.out _ b1)).mono ?_; rintro e w2 ⟨rfl, b2⟩; rw [HP.out]))
    have hb2 := b1.trans (b2.mono b1.size)
    have X2 := Lib.hid (X.out.below b2)
    clear b2
    go_wp2_with fail
    refine (l08All_any w.heap.size 0 m k _ X2.out (HA.out _ hb2) (HV.out _ hb2) HE.out hm1 hm5 hk1 hk4 HL.out).mono ?_
    rintro e w3 ⟨r3, rfl, or, b3⟩
    rw [HLAW.out] at or
    obtain ⟨sa, sn, sc, rfl, hsn⟩ := or.form
    have hb3 := hb2.trans (b3.mono hb2.size)
    have OR := Lib.hid (or.lower hb2.size)
    clear b3 or
    by_cases hbig : 260 < sn
    · have hi2 : (260 : Int) < (sn : Int) := by omega
      have HBG := Lib.hid (show 260 < (colD k part es m []).length by rw [← hsn.out]; exact hbig)
      go_wp2
      go_ret2
      rw [HR.out, if_pos HZ.out, Int.toNat_natCast, Int.toNat_natCast, if_pos HBG.out]
      exact ⟨_, rfl, (e0.out _).lower hb3.size, hb3.alloc hb3.size _⟩
    · have hi2 : ¬ (260 : Int) < (sn : Int) := by omega
      have HBG := Lib.hid (show ¬ 260 < (colD k part es m []).length by rw [← hsn.out]; exact hbig)
      go_wp2
      go_ret2
      rw [HR.out, if_pos HZ.out, Int.toNat_natCast, Int.toNat_natCast, if_neg HBG.out]
      exact ⟨_, rfl, OR.out, hb3⟩
  · have ht : (cd != 0) = true := by simp [hz]
    have HZ := Lib.hid hz
    clear hz
    go_enter Try.func7, Try.ntmps7
    go_wp2_with (first
      | (go_at_call 25; refine (l08List_any w.heap.size 0 n (-1) hi _ X.out (HV.out _ b1)).mono ?_; rintro e w' ⟨rfl, rfl⟩; rw [HCR.out])
      | (go_at_call 24; refine (l08Asked_any w.heap.size 0 n q r _ X.out (HA.out _ b1)).mono ?_; rintro e w2 ⟨rfl, b2⟩; rw [HP.out]))
    have hb2 := b1.trans (b2.mono b1.size)
    go_wp2
    go_ret2
    rw [HR.out, if_neg HZ.out]
    exact ⟨_, rfl, (e0.out _).lower hb2.size, hb2.alloc hb2.size _⟩
set_option maxHeartbeats 1000000 in
theorem partCode_any {v u : Value} {es : List (List Int)} {part : List Int} (n q : Int) (w : World) (ha : SlII w v es) (hu : SlI w u part) :
    Calls Try.prog 28 #[.agg #[.int .i64 n, v], .int .i64 q, u] w fun e w' => e = .returned (.int .i64 (partC n es q part)) ∧ Below w.heap.size w w' := by
  have HA := Lib.hid (fun W (h : Below w.heap.size w W) => ha.below h)
  have HV := Lib.hid (fun W (h : Below w.heap.size w W) => hu.below h)
  obtain ⟨a, ca, us, rfl, _⟩ := ha
  obtain ⟨va, vc, rfl, _⟩ := hu
  have b1 : Below w.heap.size w (w.alloc (.cells #[.int .i64 n, .slice a es.length ca] 29)) := (Below.refl _ _).alloc (Nat.le_refl _) _
  have X := Lib.hid (graphAt_new w n (.slice a es.length ca))
  have hR := partC_law (n := n) (q := q) (es := es) (part := part)
  have hc := codeC_nil n q es
  have hok := fun h => askedC_ok (n := n) (q := q) (es := es) (r := true) h
  rw [← hc] at hR hok
  generalize hcd : codeC n es q [] = cd at hR hok
  have HCD := Lib.hid hcd
  have HR := Lib.hid hR
  clear hR hcd hc
  by_cases hz : cd = 0
  · obtain ⟨_, h1, h4, _⟩ := hok hz
    have HZ := Lib.hid hz
    have ht : (cd == 0) = true := by simp [hz]
    generalize hr : colsOk n (-1) (q - 1) part = r
    have HCR := Lib.hid hr
    clear hz hr hok
    cases r
    all_goals
      go_enter Try.func28, Try.ntmps28
      go_wp2_with fail
      refine (colourCode_any n q _ (HA.out _ b1) (OwnII.nil _ 0).sl).mono ?_
      rintro e w2 ⟨rfl, b2⟩
      rw [HCD.out]
      have hb2 := b1.trans (b2.mono b1.size)
      obtain ⟨_, c0, c1⟩ := X.out.below b2
      simp only [Nat.zero_add] at c0 c1
      clear b2
      go_wp2_with fail
      refine (areColours_any n q (-1) _ ⟨_, _, _, rfl⟩ (HV.out _ hb2) h1 h4).mono ?_
      rintro e w3 ⟨rfl, b3⟩
      rw [HCR.out]
      go_wp2
      go_ret
      exact ⟨ri (by rw [HR.out, if_pos HZ.out, HCR.out]; first | rfl | simp [HZ.out]), hb2.trans (b3.mono hb2.size)⟩
  · have ht : (cd == 0) = false := by simp [hz]
    have HZ := Lib.hid hz
    clear hz hok
    go_enter Try.func28, Try.ntmps28
    go_wp2_with fail
    refine (colourCode_any n q _ (HA.out _ b1) (OwnII.nil _ 0).sl).mono ?_
    rintro e w2 ⟨rfl, b2⟩
    rw [HCD.out]
    go_wp2
    go_ret
    exact ⟨ri (by rw [HR.out, if_neg HZ.out]), b1.trans (b2.mono b1.size)⟩
set_option maxHeartbeats 2000000 in
theorem ImplColouringsOf_any {v u : Value} {es : List (List Int)} {part : List Int} (n q : Int) (w : World) (ha : SlII w v es) (hu : SlI w u part) :
    Calls Try.prog 10 #[.agg #[.int .i64 n, v], .int .i64 q, u] w (FreshIIC w (colOfR n es q part)) := by
  have HA := Lib.hid (fun W (h : Below w.heap.size w W) => ha.below h)
  have HV := Lib.hid (fun W (h : Below w.heap.size w W) => hu.below h)
  obtain ⟨a, ca, us, rfl, _⟩ := ha
  obtain ⟨va, vc, rfl, _⟩ := hu
  have b1 : Below w.heap.size w (w.alloc (.cells #[.int .i64 n, .slice a es.length ca] 29)) := (Below.refl _ _).alloc (Nat.le_refl _) _
  have X := Lib.hid (graphAt_new w n (.slice a es.length ca))
  have hR : colOfR n es q part = if partC n es q part = 0 then (if 260 < (colD q.toNat part es n.toNat []).length then ([], 3) else (colD q.toNat part es n.toNat [], 0)) else ([], partC n es q part) := rfl
  have hok := fun h => partC_ok (n := n) (q := q) (es := es) (part := part) h
  generalize hcd : partC n es q part = cd at hR hok
  have HR := Lib.hid hR
  have HCD := Lib.hid hcd
  have HOK := Lib.hid hok
  clear hR hcd hok
  by_cases hz : cd = 0
  · obtain ⟨m, k, rfl, rfl, hm1, hm5, hk1, hk4, hE, hl, _⟩ := HOK.out hz
    have ht : (cd != 0) = false := by simp [hz]
    have HZ := Lib.hid hz
    have HE := Lib.hid hE
    have HL := Lib.hid hl
    clear hz hE hl HOK
    go_enter Try.func10, Try.ntmps10
    go_wp2_with fail
    refine (partCode_any m k _ (HA.out _ b1) (HV.out _ b1)).mono ?_
    rintro e w2 ⟨rfl, b2⟩
    rw [HCD.out]
    have hb2 := b1.trans (b2.mono b1.size)
    obtain ⟨_, c0, c1⟩ := X.out.below b2
    simp only [Nat.zero_add] at c0 c1
    clear b2
    go_wp2_with fail
    refine (colourings_any m k _ (HA.out _ hb2) (HV.out _ hb2) HE.out hm5 hk4 HL.out).mono ?_
    rintro e w3 ⟨r3, rfl, or, b3⟩
    obtain ⟨sa, sn, sc, rfl, hsn⟩ := or.form
    have hb3 := hb2.trans (b3.mono hb2.size)
    have OR := Lib.hid (or.lower hb2.size)
    clear b3 or
    by_cases hbig : 260 < sn
    · have hi2 : (260 : Int) < (sn : Int) := by omega
      have HBG := Lib.hid (show 260 < (colD k part es m []).length by rw [← hsn.out]; exact hbig)
      go_wp2
      go_ret2
      rw [HR.out, if_pos HZ.out, Int.toNat_natCast, Int.toNat_natCast, if_pos HBG.out]
      exact ⟨_, rfl, OwnII.nil _ _, hb3⟩
    · have hi2 : ¬ (260 : Int) < (sn : Int) := by omega
      have HBG := Lib.hid (show ¬ 260 < (colD k part es m []).length by rw [← hsn.out]; exact hbig)
      go_wp2
      go_ret2
      rw [HR.out, if_pos HZ.out, Int.toNat_natCast, Int.toNat_natCast, if_neg HBG.out]
      exact ⟨_, rfl, OR.out, hb3⟩
  · have ht : (cd != 0) = true := by simp [hz]
    have HZ := Lib.hid hz
    clear hz
    go_enter Try.func10, Try.ntmps10
    go_wp2_with fail
    refine (partCode_any n q _ (HA.out _ b1) (HV.out _ b1)).mono ?_
    rintro e w2 ⟨rfl, b2⟩
    rw [HCD.out]
    go_wp2
    go_ret2
    rw [HR.out, if_neg HZ.out]
    exact ⟨_, rfl, OwnII.nil _ _, b1.trans (b2.mono b1.size)⟩
end Go.Proofs.Ytmhpbkckmjdojaa
