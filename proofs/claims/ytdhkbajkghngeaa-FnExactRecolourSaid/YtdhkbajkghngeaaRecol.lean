/-
  Recolour, both sides.
-/
import Derived.Test.YtdhkbajkghngeaaFreeS
import Derived.Test.YtdhkbajkghngeaaIsCol
import Derived.Test.YtdhkbajkghngeaaDfs
import Derived.Test.YtdhkbajkghngeaaDeckAt
namespace Go.Proofs.Ytdhkbajkghngeaa
open Go.RowKit Go.Sort
def recolR (n : Int) (es : List (List Int)) (q : Int) (cs : List Int) (node draw : Int) : List Int × Int :=
  if nodeC n es q cs node = 0 then (if properB es cs = true then (if inR draw 0 ((freeL es cs node q.toNat).length - 1) = true then (cs.set node.toNat ((freeL es cs node q.toNat).getD draw.toNat 0), 0) else ([], 2)) else ([], 4)) else ([], nodeC n es q cs node)
theorem recolR_len (n : Int) (es : List (List Int)) (q : Int) (cs : List Int) (node draw : Int) : (recolR n es q cs node draw).1.length ≤ 5 := by
  unfold recolR
  split
  · rename_i h
    obtain ⟨m, k, _, _, _, h5, _, _, _, _, hm, _⟩ := nodeC_ok h
    split
    · split
      · simp; omega
      · simp
    · simp
  · simp
set_option maxHeartbeats 1000000 in
theorem with_any {u : Value} {xs : List Int} (p : Nat) (x : Int) (w : World) (ha : SlI w u xs) (hp : p < xs.length) (hl : xs.length ≤ 1048576) :
    Calls Try.prog 91 #[u, .int .i64 p, .int .i64 x] w fun e w' => ∃ v, e = .returned v ∧ OwnI w' w.heap.size v (xs.set p x) ∧ Below w.heap.size w w' := by
  go_enter Try.func91, Try.ntmps91
  go_wp2_with fail
  refine (Clone_any w ha hl).mono ?_
  rintro e w1 ⟨v, rfl, o, b1⟩
  rcases o.forms with ⟨rfl, h⟩ | ⟨g, c, rfl, hg, hg2, _, _⟩
  · rw [h] at hp; simp at hp
  · have c1 := o.cell hp
    have f1 := o.free p
    have i1 : (p : Int) < (xs.length : Int) := by omega
    have OS := Lib.hid (o.set p x)
    have BS := Lib.hid (b1.setCell (p := ⟨g, p, none⟩) hg (.int .i64 x))
    clear o b1
    go_wp2
    go_ret
    exact ⟨_, rfl, OS.out, BS.out⟩
set_option maxHeartbeats 4000000 in
theorem ImplRecolour_any {v u : Value} {es : List (List Int)} {cs : List Int} (n q node draw : Int) (w : World) (ha : SlII w v es) (hu : SlI w u cs) :
    Calls Try.prog 31 #[.agg #[.int .i64 n, v], .int .i64 q, u, .int .i64 node, .int .i64 draw] w (FreshIC w (recolR n es q cs node draw)) := by
  have HA := Lib.hid (fun W (h : Below w.heap.size w W) => ha.below h)
  have HV := Lib.hid (fun W (h : Below w.heap.size w W) => hu.below h)
  obtain ⟨a, ca, us, rfl, _⟩ := ha
  obtain ⟨va, vc, rfl, _⟩ := hu
  have b1 : Below w.heap.size w (w.alloc (.cells #[.int .i64 n, .slice a es.length ca] 29)) := (Below.refl _ _).alloc (Nat.le_refl _) _
  have X := Lib.hid (graphAt_new w n (.slice a es.length ca))
  have e0 := Lib.hid (fun W : World => OwnI.empty W (base := W.heap.size) (Nat.le_refl _))
  by_cases hz : nodeC n es q cs node = 0
  · obtain ⟨m, k, rfl, rfl, hm1, hm5, hk1, hk4, hE, hl, hm, hn0, hn1, _, _, _, _⟩ := nodeC_ok hz
    obtain ⟨F, hF⟩ : ∃ F, F = freeL es cs node k := ⟨_, rfl⟩
    have hFl : F.length ≤ k := by rw [hF]; exact freeL_length _ _ _ _
    obtain ⟨nd, rfl⟩ := Int.eq_ofNat_of_zero_le hn0
    have hR : recolR m es k cs nd draw = if properB es cs = true then (if inR draw 0 (F.length - 1) = true then (cs.set nd (F.getD draw.toNat 0), 0) else ([], 2)) else ([], 4) := by
      unfold recolR; rw [if_pos hz, Int.toNat_natCast, Int.toNat_natCast, ← hF]
    generalize hp : properB es cs = p at hR
    generalize hd : inR draw 0 ((F.length : Int) - 1) = d at hR
    have HP := Lib.hid hp
    have HD := Lib.hid hd
    have HF := Lib.hid hF
    have HR := Lib.hid hR
    have HE := Lib.hid hE
    have HM := Lib.hid hm
    have HZ := Lib.hid hz
    clear hp hd hF hR hE hm
    clear hz
    go_enter Try.func31, Try.ntmps31
    go_wp2_with fail
    refine (nodeCode_any m k nd _ (HA.out _ b1) (HV.out _ b1)).mono ?_
    rintro e w2 ⟨rfl, b2⟩
    rw [HZ.out]
    have hb2 := b1.trans (b2.mono b1.size)
    have X2 := Lib.hid (X.out.below b2)
    obtain ⟨_, c0, c1⟩ := X2.out
    simp only [Nat.zero_add] at c0 c1
    clear b2
    go_wp2_with fail
    refine (isColouring_any m m _ (HA.out _ hb2) (HV.out _ hb2) HE.out HM.out).mono ?_
    rintro e w3 ⟨rfl, b3⟩
    rw [HP.out]
    have hb3 := hb2.trans (b3.mono hb2.size)
    have X3 := Lib.hid (X2.out.below b3)
    clear c0 c1
    obtain ⟨_, c0, c1⟩ := X3.out
    simp only [Nat.zero_add] at c0 c1
    clear b3
    cases p
    · go_wp2
      go_ret2
      rw [HR.out]
      exact ⟨_, rfl, OwnI.nil _ _, hb3⟩
    · go_wp2_with fail
      refine (free_any m m nd k _ (HA.out _ hb3) (HV.out _ hb3) HE.out HM.out (by omega) (by omega)).mono ?_
      rintro e w4 ⟨r, rfl, orr, b4⟩
      rw [← HF.out] at orr
      have hb4 := hb3.trans (b4.mono hb3.size)
      obtain ⟨ra, rn, rc, rfl, hrn⟩ := orr.form
      rw [hrn.out] at orr ⊢
      clear c0 c1 b4
      go_wp2_with fail
      refine (hasIndex_any draw F.length _ (by omega) (by omega)).mono ?_
      rintro e w5 ⟨rfl, rfl⟩
      rw [HD.out]
      cases d
      · go_wp2
        go_ret2
        rw [HR.out]
        exact ⟨_, rfl, OwnI.nil _ _, hb4⟩
      · have hb := inR_iff.1 HD.out
        obtain ⟨dr, rfl⟩ := Int.eq_ofNat_of_zero_le hb.1
        have hdl : dr < F.length := by omega
        have i1 : (dr : Int) < (F.length : Int) := by omega
        obtain ⟨ra', rc', hr', _, _, rr⟩ := orr.sl
        simp only [Value.slice.injEq] at hr'
        obtain ⟨rfl, _, rfl⟩ := hr'
        obtain ⟨rb, ro, rfl, gd⟩ := rr.one (i64s_get hdl)
        have hx : (if true = true then (if true = true then (cs.set nd (F.getD dr 0), (0 : Int)) else ([], 2)) else ([], 4)) = (cs.set nd F[dr], 0) := by simp [List.getD_eq_getElem?_getD, hdl]
        have HX := Lib.hid hx
        have ndl : nd < cs.length := by rw [HM.out]; omega
        have hcl : cs.length ≤ 1048576 := by rw [HM.out]; omega
        clear hx hb rr orr
        go_wp2_with fail
        refine (with_any nd F[dr] _ (HV.out _ hb4) ndl hcl).mono ?_
        rintro e w6 ⟨ov, rfl, oo, b6⟩
        go_wp2
        go_ret2
        rw [HR.out, Int.toNat_natCast, HX.out]
        exact ⟨_, rfl, oo.lower hb4.size, hb4.trans (b6.mono hb4.size)⟩
  · have hR : recolR n es q cs node draw = ([], nodeC n es q cs node) := by unfold recolR; rw [if_neg hz]
    have HR := Lib.hid hR
    generalize hcd : nodeC n es q cs node = cd at hz
    have HCD := Lib.hid hcd
    have ht : (cd != 0) = true := by simp [hz]
    clear hR hcd hz
    go_enter Try.func31, Try.ntmps31
    go_wp2_with fail
    refine (nodeCode_any n q node _ (HA.out _ b1) (HV.out _ b1)).mono ?_
    rintro e w2 ⟨rfl, b2⟩
    rw [HCD.out]
    go_wp2
    go_ret2
    rw [HR.out, HCD.out]
    exact ⟨_, rfl, OwnI.nil _ _, b1.trans (b2.mono b1.size)⟩
set_option maxHeartbeats 4000000 in
theorem SpecRecolour_any {v u : Value} {es : List (List Int)} {cs : List Int} (n q node draw : Int) (w : World) (ha : SlII w v es) (hu : SlI w u cs) :
    Calls Try.prog 30 #[.agg #[.int .i64 n, v], .int .i64 q, u, .int .i64 node, .int .i64 draw] w (FreshIC w (recolR n es q cs node draw)) := by
  have HA := Lib.hid (fun W (h : Below w.heap.size w W) => ha.below h)
  have HV := Lib.hid (fun W (h : Below w.heap.size w W) => hu.below h)
  obtain ⟨a, ca, us, rfl, _⟩ := ha
  obtain ⟨va, vc, rfl, _⟩ := hu
  have b1 : Below w.heap.size w (w.alloc (.cells #[.int .i64 n, .slice a es.length ca] 29)) := (Below.refl _ _).alloc (Nat.le_refl _) _
  have X := Lib.hid (graphAt_new w n (.slice a es.length ca))
  have e0 := Lib.hid (fun W : World => OwnI.empty W (base := W.heap.size) (Nat.le_refl _))
  by_cases hz : nodeC n es q cs node = 0
  · obtain ⟨m, k, rfl, rfl, hm1, hm5, hk1, hk4, hE, hl, hm, hn0, hn1, _, r1, r2, r3⟩ := nodeC_ok hz
    obtain ⟨F, hF⟩ : ∃ F, F = freeL es cs node k := ⟨_, rfl⟩
    have hFl : F.length ≤ k := by rw [hF]; exact freeL_length _ _ _ _
    obtain ⟨nd, rfl⟩ := Int.eq_ofNat_of_zero_le hn0
    have hR : recolR m es k cs nd draw = if properB es cs = true then (if inR draw 0 (F.length - 1) = true then (cs.set nd (F.getD draw.toNat 0), 0) else ([], 2)) else ([], 4) := by
      unfold recolR; rw [if_pos hz, Int.toNat_natCast, Int.toNat_natCast, ← hF]
    generalize hp : properB es cs = p at hR
    generalize hd : inR draw 0 ((F.length : Int) - 1) = d at hR
    have HP := Lib.hid hp
    have HD := Lib.hid hd
    have HF := Lib.hid hF
    have HR := Lib.hid hR
    have HE := Lib.hid hE
    have HM := Lib.hid hm
    have HZ := Lib.hid hz
    clear hp hd hF hR hE hm
    have HR1 := Lib.hid r1
    have HR2 := Lib.hid r2
    have HR3 := Lib.hid r3
    clear hz r1 r2 r3
    go_enter Try.func30, Try.ntmps30
    go_wp2_with (first
      | (go_at_call 74; refine (l08List_any w.heap.size 0 m 0 ((k : Int) - 1) _ X.out (HV.out _ b1)).mono ?_; rintro e w' ⟨rfl, rfl⟩; rw [HR1.out])
      | (go_at_call 83; refine (l00In_any nd 0 ((m : Int) - 1) _).mono ?_; rintro e w' ⟨rfl, rfl⟩; rw [HR2.out]))
    refine (l08Asked_any w.heap.size 0 m k true _ X.out (HA.out _ b1)).mono ?_
    rintro e w2 ⟨rfl, b2⟩
    rw [HR3.out]
    have hb2 := b1.trans (b2.mono b1.size)
    have X2 := Lib.hid (X.out.below b2)
    clear b2
    go_wp2_with fail
    refine (l08Proper_any w.heap.size 0 m m _ X2.out (HA.out _ hb2) (HV.out _ hb2) HE.out HM.out).mono ?_
    rintro e w3 ⟨rfl, b3⟩
    rw [HP.out]
    have hb3 := hb2.trans (b3.mono hb2.size)
    have X3 := Lib.hid (X2.out.below b3)
    clear b3
    cases p
    · go_wp2
      go_ret2
      rw [HR.out]
      exact ⟨_, rfl, (e0.out _).lower hb3.size, hb3.alloc hb3.size _⟩
    · go_wp2_with fail
      refine (l08Free_any w.heap.size 0 m nd k _ X3.out (HA.out _ hb3) (HV.out _ hb3) HE.out HM.out (by omega) (by omega)).mono ?_
      rintro e w4 ⟨r, rfl, orr, b4⟩
      rw [← HF.out] at orr
      have hb4 := hb3.trans (b4.mono hb3.size)
      obtain ⟨ra, rn, rc, rfl, hrn⟩ := orr.form
      rw [hrn.out] at orr ⊢
      clear b4
      go_wp2_with fail
      refine (l00In_any draw 0 ((F.length : Int) - 1) _).mono ?_
      rintro e w5 ⟨rfl, rfl⟩
      rw [HD.out]
      cases d
      · go_wp2
        go_ret2
        rw [HR.out]
        exact ⟨_, rfl, (e0.out _).lower hb4.size, hb4.alloc hb4.size _⟩
      · have hb := inR_iff.1 HD.out
        obtain ⟨dr, rfl⟩ := Int.eq_ofNat_of_zero_le hb.1
        have hdl : dr < F.length := by omega
        have i1 : (dr : Int) < (F.length : Int) := by omega
        have hx : (if true = true then (if true = true then (cs.set nd (F.getD dr 0), (0 : Int)) else ([], 2)) else ([], 4)) = (cs.set nd F[dr], 0) := by simp [List.getD_eq_getElem?_getD, hdl]
        have HX := Lib.hid hx
        have ndl : nd < cs.length := by rw [HM.out]; omega
        have hcl : cs.length ≤ 1048576 := by rw [HM.out]; omega
        have HO := Lib.hid orr
        clear hx hb orr
        go_wp2_with fail
        refine (l00Own_any _ (HV.out _ hb4) hcl).mono ?_
        rintro e w6 ⟨ov, rfl, oo, b6⟩
        obtain ⟨ra', rc', hr', _, _, rr⟩ := (HO.out.below b6).sl
        simp only [Value.slice.injEq] at hr'
        obtain ⟨rfl, _, rfl⟩ := hr'
        obtain ⟨rb, ro, rfl, gd⟩ := rr.one (i64s_get hdl)
        rcases oo.forms with ⟨rfl, h⟩ | ⟨g, c, rfl, hg, hg2, _, _⟩
        · rw [h] at ndl; simp at ndl
        · have c1 := oo.cell ndl
          have f1 := oo.free nd
          have i2 : (nd : Int) < (cs.length : Int) := by omega
          have OS := Lib.hid (oo.set nd F[dr])
          have BS := Lib.hid ((hb4.trans (b6.mono hb4.size)).setCell (p := ⟨g, nd, none⟩) (Nat.le_trans hb4.size hg) (.int .i64 F[dr]))
          have hz4 := hb4.size
          clear oo b6 rr
          go_wp2
          go_ret2
          rw [HR.out, Int.toNat_natCast, HX.out]
          exact ⟨_, rfl, OS.out.lower hz4, BS.out⟩
  · have hR : recolR n es q cs node draw = ([], nodeC n es q cs node) := by unfold recolR; rw [if_neg hz]
    have HR := Lib.hid hR
    obtain ⟨hi, hhi⟩ : ∃ hi, IntKind.i64.wrap (q - 1) = hi := ⟨_, rfl⟩
    obtain ⟨hn, hhn⟩ : ∃ hn, IntKind.i64.wrap (n - 1) = hn := ⟨_, rfl⟩
    have hND : nodeC n es q cs node = askedC n es q (colsOk n 0 hi cs && inR node 0 hn) := by unfold nodeC; rw [hhi, hhn]
    generalize hcd : nodeC n es q cs node = cd at hz hND
    generalize hr1 : colsOk n 0 hi cs = r1 at hND
    generalize hr2 : inR node 0 hn = r2 at hND
    have HND := Lib.hid hND
    have HCD := Lib.hid hcd
    have HR1 := Lib.hid hr1
    have HR2 := Lib.hid hr2
    have ht : (cd != 0) = true := by simp [hz]
    have HZ := Lib.hid hz
    have hw1 : wrap64 (q - 1) = hi := by rw [← IntWalk.i64_left]; exact hhi
    have hw2 : wrap64 (n - 1) = hn := by rw [← IntWalk.i64_left]; exact hhn
    clear hND hcd hr1 hr2 hhi hhn hz hR
    cases r1
    all_goals
      go_enter Try.func30, Try.ntmps30
      go_wp2_with (first
        | (go_at_call 74; refine (l08List_any w.heap.size 0 n 0 hi _ X.out (HV.out _ b1)).mono ?_; rintro e w' ⟨rfl, rfl⟩; rw [HR1.out])
        | (go_at_call 83; refine (l00In_any node 0 hn _).mono ?_; rintro e w' ⟨rfl, rfl⟩; rw [HR2.out]))
      refine (l08Asked_any w.heap.size 0 n q _ _ X.out (HA.out _ b1)).mono ?_
      rintro e w2 ⟨rfl, b2⟩
      first | rw [show askedC n es q r2 = cd from HND.out.symm] | rw [show askedC n es q false = cd from HND.out.symm]
      go_wp2
      go_ret2
      rw [HR.out, HCD.out]
      have hb2 := b1.trans (b2.mono b1.size)
      exact ⟨_, rfl, (e0.out _).lower hb2.size, hb2.alloc hb2.size _⟩
end Go.Proofs.Ytdhkbajkghngeaa
