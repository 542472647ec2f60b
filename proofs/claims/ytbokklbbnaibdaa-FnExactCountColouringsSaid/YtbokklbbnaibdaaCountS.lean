/-
  CountColourings, both sides.
-/
import Derived.Test.YtbokklbbnaibdaaAllS
namespace Go.Proofs.Ytbokklbbnaibdaa
open Go.RowKit Go.Sort
def countR (n : Int) (es : List (List Int)) (q : Int) : Int × Int := if askedC n es q true = 0 then (((countL q.toNat n.toNat es : Nat) : Int), (0 : Int)) else (0, askedC n es q true)
theorem codeC_nil (n q : Int) (es : List (List Int)) : codeC n es q [] = askedC n es q true := by
  unfold codeC askedC
  split
  · rfl
  · split
    · rfl
    · simp
set_option maxRecDepth 100000 in
set_option maxHeartbeats 1000000 in
theorem l08Count_any {v : Value} {es : List (List Int)} (b o m q : Nat) (w : World) (hc : GraphAt w b o m v) (ha : SlII w v es) (hE : EdgesB m es) (hm1 : 1 ≤ m) (hm : m ≤ 5) (hq1 : 1 ≤ q) (hq : q ≤ 4) :
    Calls Try.prog 81 #[.pointer (some ⟨b, o, none⟩), .int .i64 q] w fun e w' => e = .returned (.int .i64 (countL q m es)) ∧ Below w.heap.size w w' := by
  have HA := Lib.hid (fun W (h : Below w.heap.size w W) => ha.below h)
  have HC := Lib.hid (fun W (h : Below w.heap.size w W) => hc.below h)
  have HE := Lib.hid hE
  have hlaw : countL q m es = (colS q (List.replicate m (-1)) es m (q ^ m)).length := by rw [col_law (by omega)]; rfl
  generalize countL q m es = cl at hlaw
  have HL := Lib.hid hlaw
  obtain ⟨_, c0, c1⟩ := hc
  clear hlaw ha hE
  go_enter Try.func81, Try.ntmps81
  go_wp2_with fail
  refine (l08Open_any m w (by omega)).mono ?_
  rintro e w1 ⟨r, rfl, or, b1⟩
  obtain ⟨oa, on, oc, rfl, _⟩ := or.form
  have HOR := Lib.hid or
  have B1 := Lib.hid b1
  clear or b1 c0 c1
  go_wp2_with fail
  refine (l08All_any b o m q _ (HC.out _ B1.out) (HA.out _ B1.out) HOR.out.sl HE.out hm1 hm hq1 hq (by simp)).mono ?_
  rintro e w2 ⟨r2, rfl, or2, b2⟩
  obtain ⟨sa, sn, sc, rfl, hsn⟩ := or2.form
  go_wp2
  go_ret
  exact ⟨ri (by rw [hsn.out, HL.out]), B1.out.trans (b2.mono B1.out.size)⟩
set_option maxHeartbeats 1000000 in
theorem SpecCountColourings_any {v : Value} {es : List (List Int)} (n q : Int) (w : World) (ha : SlII w v es) :
    Calls Try.prog 40 #[.agg #[.int .i64 n, v], .int .i64 q] w fun e w' => e = .returned (tupII (countR n es q)) ∧ Below w.heap.size w w' := by
  have HA := Lib.hid (fun W (h : Below w.heap.size w W) => ha.below h)
  obtain ⟨a, ca, us, rfl, _⟩ := ha
  have b1 : Below w.heap.size w (w.alloc (.cells #[.int .i64 n, .slice a es.length ca] 37)) := (Below.refl _ _).alloc (Nat.le_refl _) _
  have X := Lib.hid (graphAt_new w n (.slice a es.length ca))
  have hR : countR n es q = if askedC n es q true = 0 then (((countL q.toNat n.toNat es : Nat) : Int), (0 : Int)) else (0, askedC n es q true) := rfl
  have hok := fun h => askedC_ok (n := n) (q := q) (es := es) (r := true) h
  generalize hcd : askedC n es q true = cd at hR hok
  have HCD := Lib.hid hcd
  have HRR := Lib.hid hR
  have HOK := Lib.hid hok
  clear hR hcd hok
  by_cases hz : cd = 0
  · obtain ⟨hg, hq1, hq4, _⟩ := HOK.out hz
    obtain ⟨m, rfl, hm1, hm5, hE, _⟩ := graphOk_all hg
    obtain ⟨k, rfl⟩ := Int.eq_ofNat_of_zero_le (show 0 ≤ q by omega)
    have ht : (cd != 0) = false := by simp [hz]
    have HZ := Lib.hid hz
    have HE := Lib.hid hE
    clear hz hg hE HOK
    go_enter Try.func40, Try.ntmps40
    go_wp2_with fail
    refine (l08Asked_any w.heap.size 0 m k true _ X.out (HA.out _ b1)).mono ?_
    rintro e w2 ⟨rfl, b2⟩
    rw [HCD.out]
    have hb2 := b1.trans (b2.mono b1.size)
    have X2 := Lib.hid (X.out.below b2)
    clear b2
    go_wp2_with fail
    refine (l08Count_any w.heap.size 0 m k _ X2.out (HA.out _ hb2) HE.out hm1 hm5 (by omega) (by omega)).mono ?_
    rintro e w3 ⟨rfl, b3⟩
    go_wp2
    go_ret2
    rw [HRR.out, if_pos HZ.out]
    exact ⟨rfl, hb2.trans (b3.mono hb2.size)⟩
  · have ht : (cd != 0) = true := by simp [hz]
    have HZ := Lib.hid hz
    clear hz
    go_enter Try.func40, Try.ntmps40
    go_wp2_with fail
    refine (l08Asked_any w.heap.size 0 n q true _ X.out (HA.out _ b1)).mono ?_
    rintro e w2 ⟨rfl, b2⟩
    rw [HCD.out]
    go_wp2
    go_ret2
    rw [HRR.out, if_neg HZ.out]
    exact ⟨rfl, b1.trans (b2.mono b1.size)⟩
set_option maxHeartbeats 1000000 in
theorem ImplCountColourings_any {v : Value} {es : List (List Int)} (n q : Int) (w : World) (ha : SlII w v es) :
    Calls Try.prog 41 #[.agg #[.int .i64 n, v], .int .i64 q] w fun e w' => e = .returned (tupII (countR n es q)) ∧ Below w.heap.size w w' := by
  have HA := Lib.hid (fun W (h : Below w.heap.size w W) => ha.below h)
  obtain ⟨a, ca, us, rfl, _⟩ := ha
  have b1 : Below w.heap.size w (w.alloc (.cells #[.int .i64 n, .slice a es.length ca] 37)) := (Below.refl _ _).alloc (Nat.le_refl _) _
  have X := Lib.hid (graphAt_new w n (.slice a es.length ca))
  have hR : countR n es q = if codeC n es q [] = 0 then (((countL q.toNat n.toNat es : Nat) : Int), (0 : Int)) else (0, codeC n es q []) := by rw [codeC_nil]; rfl
  have hok := fun h => askedC_ok (n := n) (q := q) (es := es) (r := true) h
  rw [← codeC_nil] at hok
  generalize hcd : codeC n es q [] = cd at hR hok
  have HCD := Lib.hid hcd
  have HRR := Lib.hid hR
  have HOK := Lib.hid hok
  clear hR hcd hok
  by_cases hz : cd = 0
  · obtain ⟨hg, hq1, hq4, _⟩ := HOK.out hz
    obtain ⟨m, rfl, hm1, hm5, hE, _⟩ := graphOk_all hg
    obtain ⟨k, rfl⟩ := Int.eq_ofNat_of_zero_le (show 0 ≤ q by omega)
    have ht : (cd != 0) = false := by simp [hz]
    have HZ := Lib.hid hz
    have HE := Lib.hid hE
    clear hz hg hE HOK
    go_enter Try.func41, Try.ntmps41
    go_wp2_with fail
    refine (colourCode_any m k _ (HA.out _ b1) (OwnII.nil _ 0).sl).mono ?_
    rintro e w2 ⟨rfl, b2⟩
    rw [HCD.out]
    have hb2 := b1.trans (b2.mono b1.size)
    obtain ⟨_, c0, c1⟩ := X.out.below b2
    simp only [Nat.zero_add] at c0 c1
    clear b2
    go_wp2_with fail
    refine (count_any m k _ (HA.out _ hb2) HE.out hm5 (by omega)).mono ?_
    rintro e w3 ⟨rfl, b3⟩
    go_wp2
    go_ret2
    rw [HRR.out, if_pos HZ.out]
    exact ⟨rfl, hb2.trans (b3.mono hb2.size)⟩
  · have ht : (cd != 0) = true := by simp [hz]
    have HZ := Lib.hid hz
    clear hz
    go_enter Try.func41, Try.ntmps41
    go_wp2_with fail
    refine (colourCode_any n q _ (HA.out _ b1) (OwnII.nil _ 0).sl).mono ?_
    rintro e w2 ⟨rfl, b2⟩
    rw [HCD.out]
    go_wp2
    go_ret2
    rw [HRR.out, if_neg HZ.out]
    exact ⟨rfl, b1.trans (b2.mono b1.size)⟩
end Go.Proofs.Ytbokklbbnaibdaa
