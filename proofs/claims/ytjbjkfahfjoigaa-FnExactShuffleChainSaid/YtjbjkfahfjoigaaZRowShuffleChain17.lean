/-
  All ways of a shuffle: the program's lists of decks.
-/
import Derived.Test.YtjbjkfahfjoigaaZRowShuffleChain16
import Derived.Test.YtjbjkfahfjoigaaZRowShuffleChain5
import Derived.Test.YtjbjkfahfjoigaaZRowShuffleChain14
import Derived.Test.YtjbjkfahfjoigaaZRowShuffleChain1
import Derived.Deep.DeepCutAuto
import Derived.Deep.RegionWith
set_option linter.unusedVariables false
set_option linter.unusedSimpArgs false
namespace Go.Proofs.Ytjbjkfahfjoigaa
open Go.RowKit Go.Sort

theorem SlI.drop1 {w : World} {g off n c k : Nat} {d : List Int} (h : SlI w (.slice (some ⟨g, off, none⟩) n c) d) (hk : k ≤ n) : SlI w (.slice (if c = k then some ⟨g, off, none⟩ else some ⟨g, off + k, none⟩) (n - k) (c - k)) (d.drop k) := by
  obtain ⟨ad, c', he, hc, hm, hr⟩ := h
  simp only [Value.slice.injEq] at he
  obtain ⟨rfl, rfl, rfl⟩ := he
  refine ⟨_, _, by rw [List.length_drop], by rw [List.length_drop]; omega, by omega, ?_⟩
  intro j u hj
  have hjl := (List.getElem?_eq_some_iff.1 hj).1
  rw [i64s_length, List.length_drop] at hjl
  have hj2 : (i64s d)[k + j]? = some u := by
    rw [i64s_get (by rw [List.length_drop]; exact hjl)] at hj
    rw [i64s_get (by omega), ← hj]
    simp
  obtain ⟨b, o, h1, h2, h3⟩ := hr (k + j) u hj2
  simp only [Option.some.injEq, Addr.mk.injEq] at h1
  obtain ⟨rfl, rfl, _⟩ := h1
  rw [if_neg (by omega)]
  exact ⟨_, _, rfl, h2, by rw [Nat.add_assoc]; exact h3⟩
theorem SlI.take1 {w : World} {a : Option Addr} {n c k : Nat} {d : List Int} (h : SlI w (.slice a n c) d) (hk : k ≤ n) : SlI w (.slice a k c) (d.take k) := by
  obtain ⟨ad, c', he, hc, hm, hr⟩ := h
  simp only [Value.slice.injEq] at he
  obtain ⟨rfl, rfl, rfl⟩ := he
  refine ⟨a, c, by rw [List.length_take, Nat.min_eq_left hk], by rw [List.length_take]; omega, hm, ?_⟩
  intro j u hj
  have hjl := (List.getElem?_eq_some_iff.1 hj).1
  rw [i64s_length, List.length_take] at hjl
  rw [i64s_get (by rw [List.length_take]; exact hjl)] at hj
  refine hr j u ?_
  rw [i64s_get (by omega), ← hj]
  simp
set_option maxRecDepth 100000 in
set_option maxHeartbeats 4000000 in
theorem shuf1_any {u : Value} {d : List Int} (w : World) (ha : SlI w u d) (h1 : 1 ≤ d.length) (h3 : d.length ≤ 3) :
    Calls Try.prog 21 #[u, .int .i64 1] w fun e w' => ∃ r, e = .returned r ∧ OwnII w' w.heap.size r (shufL d 1) ∧ Below w.heap.size w w' := by
  have E0 := Lib.hid (OwnII.empty w (base := w.heap.size) (Nat.le_refl _))
  have B0 := Lib.hid ((Below.refl w.heap.size w).alloc (Nat.le_refl _) (.cells #[] 42))
  have HA := Lib.hid (fun W (h : Below w.heap.size w W) => ha.below h)
  obtain ⟨a, ca, rfl, hca, hcm, hrd⟩ := ha
  obtain ⟨g, off, hae, gy⟩ := hrd.one (i64s_get (show 0 < d.length by omega))
  have hgs := cell_lt gy
  subst hae
  unfold maxLen at hcm
  have HW := Lib.hid (show shufL d 1 = (List.range d.length).map (topD d) from rfl)
  have hY : d[0] = d.getD 0 0 := (gD_at (by omega)).symm
  rw [hY, Nat.add_zero] at gy
  have HT := Lib.hid (show ∀ p, topD d p = insN (d.drop 1) p (d.getD 0 0) from fun p => rfl)
  obtain ⟨n, hn⟩ : ∃ n, n = d.length := ⟨_, rfl⟩
  rw [← hn] at HA HW h1 h3 hca ⊢
  have hdl : (d.drop 1).length = n - 1 := by rw [List.length_drop, hn]
  have HD := Lib.hid (fun W (h : Below w.heap.size w W) => (HA.out W h).drop1 (k := 1) h1)
  have HGC := Lib.hid (fun W (h : Below w.heap.size w W) => show W.cell? ⟨g, off, none⟩ = some (.int .i64 (d.getD 0 0)) from by rw [h.cell (p := ⟨g, off, none⟩) hgs]; exact gy)
  obtain ⟨ad, had⟩ : ∃ ad : Option Addr, ad = if ca = 1 then some ⟨g, off, none⟩ else some ⟨g, off + 1, none⟩ := ⟨_, rfl⟩
  rw [← had] at HD
  have HAD := Lib.hid had
  generalize d.getD 0 0 = Y at HT HGC
  generalize d.drop 1 = D1 at HT HD hdl
  clear hrd gy hY had hn HA
  go_enter Try.func21, Try.ntmps21
  go_wp2
  go_loopw [5, 20] (fun r i wr => ∃ k : Nat, k ≤ n ∧ i = .int .i64 k ∧ OwnII wr w.heap.size r ((List.range k).map (topD d)) ∧ Below w.heap.size w wr) (fun _ i _ => n - (intOf i).toNat)
  case atStart => exact ⟨0, Nat.zero_le _, rfl, E0.out, B0.out⟩
  case round =>
    clear E0 B0
    obtain ⟨k, hk, rfl, hown, hbw⟩ := hrel
    have HO := Lib.hid hown
    have HBW := Lib.hid hbw
    by_cases hlt : k < n
    · have i1 : (k : Int) < (n : Int) := by omega
      have i2 : (1 : Int) ≤ (n : Int) := by omega
      have i3 : (0 : Int) < (n : Int) := by omega
      have i4 : 0 < n := by omega
      have HS := Lib.hid (mapR_succ (topD d) k)
      have hln : ((List.range k).map (topD d)).length < 16777216 := by simp; omega
      have hki : k ≤ D1.length := by rw [hdl]; omega
      clear hown
      go_wp2_with fail
      refine wpX_start (fun W => W.cell? ⟨g, off, none⟩ = some (.int .i64 Y) ∧ True) [10, 11, 12] (by kernel_rfl) ?_
      have b0 : Below wr.heap.size wr wr.drew := (Below.refl _ _).drew
      have hC : wr.drew.cell? ⟨g, off, none⟩ = some (.int .i64 Y) ∧ True := ⟨HGC.out _ (HBW.out.trans (b0.mono HBW.out.size)), trivial⟩
      refine wpX_free (i := 0) (v := ?_) rfl (by kernel_rfl) (fun _ _ _ h => h) rfl (fun w' => ?_) ?_
      rotate_left
      · go_simp; try with_reducible rfl
      try simp only [Act.put, List.setIfInBounds_toArray, List.set_cons_zero, List.set_cons_succ]
      refine wpX_free (i := 1) (v := ?_) rfl (by kernel_rfl) (fun _ _ _ h => h) rfl (fun w' => ?_) ?_
      rotate_left
      · go_simp; try with_reducible rfl
      try simp only [Act.put, List.setIfInBounds_toArray, List.set_cons_zero, List.set_cons_succ]
      refine wpX_free (i := 2) (v := ?_) rfl (by kernel_rfl) (fun _ _ _ h => h) rfl (fun w' => ?_) ?_
      rotate_left
      · go_simp; try with_reducible rfl
      try simp only [Act.put, List.setIfInBounds_toArray, List.set_cons_zero, List.set_cons_succ]
      refine wpX_free (i := 4) (v := ?_) rfl (by kernel_rfl) (fun _ _ _ h => h) rfl (fun w' => ?_) ?_
      rotate_left
      · go_simp; try with_reducible rfl
      try simp only [Act.put, List.setIfInBounds_toArray, List.set_cons_zero, List.set_cons_succ]
      refine wpX_free (i := 5) (v := ?_) rfl (by kernel_rfl) (fun _ _ _ h => h) rfl (fun w' => ?_) ?_
      rotate_left
      · go_simp; try with_reducible rfl
      try simp only [Act.put, List.setIfInBounds_toArray, List.set_cons_zero, List.set_cons_succ]
      refine wpX_free (i := 6) (v := ?_) rfl (by kernel_rfl) (fun _ _ _ h => h) rfl (fun w' => ?_) ?_
      rotate_left
      · go_simp; try with_reducible rfl
      try simp only [Act.put, List.setIfInBounds_toArray, List.set_cons_zero, List.set_cons_succ]
      refine wpX_load (i := 7) (v := ?_) rfl (by kernel_rfl) (fun _ _ _ h => h) hC rfl (fun w' hw' => ?_) ?_
      rotate_left
      · obtain ⟨k1, k2⟩ := hw'; go_simp; try with_reducible rfl
      try simp only [Act.put, List.setIfInBounds_toArray, List.set_cons_zero, List.set_cons_succ]
      refine wpX_two (i := 3) (j := 8) rfl rfl (by kernel_rfl) rfl rfl ?_ ?_
      · intro K hK
        go_simp
        rw [← HAD.out]
        go_at_call 45
        refine (Clone_any _ (HD.out _ (HBW.out.trans (b0.mono HBW.out.size))) (by rw [hdl]; omega)).mono ?_
        rintro e w1 ⟨v, rfl, o1, b1⟩
        obtain ⟨sa, sn, sc, rfl, hsn⟩ := o1.form
        have bu : Below wr.heap.size wr w1 := b0.trans b1
        have hC : _ ∧ True := ⟨HGC.out _ (HBW.out.trans (bu.mono HBW.out.size)), trivial⟩
        refine hK _ _ hC ?_
        clear hK K
        try simp only [Act.put, List.setIfInBounds_toArray, List.set_cons_zero, List.set_cons_succ]
        refine wpX_one (i := 8) rfl (by kernel_rfl) rfl ?_
        intro K hK
        go_simp
        have ba : Below w1.heap.size w1 (w1.alloc (.cells #[.int .i64 Y] 2)) := (Below.refl _ _).alloc (Nat.le_refl _) _
        have bv := bu.trans (ba.mono bu.size)
        have hC : _ ∧ True := ⟨HGC.out _ (HBW.out.trans (bv.mono HBW.out.size)), trivial⟩
        refine hK _ _ hC ?_
        clear hK K
        try simp only [Act.put, List.setIfInBounds_toArray, List.set_cons_zero, List.set_cons_succ]
        have o1i := (o1.lower (base' := wr.heap.size) (Nat.le_refl _)).below ba
        have hv := OwnI.lit1 w1 (base := wr.heap.size) bu.size Y
        have hvb := fun g hg => show g ≠ w1.heap.size from by have := (o1.lt g hg).2; omega
        refine wpX_one (i := 9) rfl (by kernel_rfl) rfl ?_
        intro K hK
        go_simp
        go_at_call 46
        refine (Insert_any (base := wr.heap.size) k _ Y _ o1i hki (by rw [hdl]; omega) hvb hv bv.size).mono ?_
        rintro e w2 ⟨r, rfl, o2, b2⟩
        obtain ⟨ra, rn, rc, rfl, hrn⟩ := o2.form
        have bx := bv.trans b2
        have hC : _ ∧ True := ⟨HGC.out _ (HBW.out.trans (bx.mono HBW.out.size)), trivial⟩
        refine hK _ _ hC ?_
        clear hK K
        try simp only [Act.put, List.setIfInBounds_toArray, List.set_cons_zero, List.set_cons_succ]
        refine wpX_rest (t := [10, 11, 12]) (l := [_, _, _]) rfl (by kernel_rfl) (by kernel_rfl) ?_
        clear hC
        simp only [List.getElem_toArray, List.getElem_cons_zero, List.getElem_cons_succ]
        have ho := HO.out
        have hz := HBW.out.size
        have HX := Lib.hid bx
        clear b2 bv
        go_wp2_with (at_builtin; refine append_row wr w2 _ _ rfl rfl rfl ho bx o2 rfl hln hz ?_)
        intro v7 w7 o7 b7 z7
        have B7 := Lib.hid ((((HBW.out.trans (HX.out.mono HBW.out.size)).alloc (HBW.out.trans (HX.out.mono HBW.out.size)).size _)).trans b7)
        rw [← HT.out, ← HS.out] at o7
        clear b7 ho o2 bx hrn
        go_wp2
        go_roundw
        case rel => exact ⟨k + 1, by omega, by go_num, o7, B7.out⟩
        case measure => simp [intOf]; omega
      · intro K hK
        go_simp
        have ba : Below wr.heap.size wr (wr.alloc (.cells #[.int .i64 Y] 2)).drew := ((Below.refl _ _).alloc (Nat.le_refl _) _).drew
        have hC : _ ∧ True := ⟨HGC.out _ (HBW.out.trans (ba.mono HBW.out.size)), trivial⟩
        refine hK _ _ hC ?_
        clear hK K
        try simp only [Act.put, List.setIfInBounds_toArray, List.set_cons_zero, List.set_cons_succ]
        refine wpX_one (i := 3) rfl (by kernel_rfl) rfl ?_
        intro K hK
        go_simp
        rw [← HAD.out]
        go_at_call 45
        refine (Clone_any _ (HD.out _ (HBW.out.trans (ba.mono HBW.out.size))) (by rw [hdl]; omega)).mono ?_
        rintro e w1 ⟨v, rfl, o1, b1⟩
        obtain ⟨sa, sn, sc, rfl, hsn⟩ := o1.form
        have bv : Below wr.heap.size wr w1 := ba.trans (b1.mono ba.size)
        have hC : _ ∧ True := ⟨HGC.out _ (HBW.out.trans (bv.mono HBW.out.size)), trivial⟩
        refine hK _ _ hC ?_
        clear hK K
        try simp only [Act.put, List.setIfInBounds_toArray, List.set_cons_zero, List.set_cons_succ]
        have o1i := o1.lower (base' := wr.heap.size) ba.size
        have hv := (OwnI.lit1 wr (base := wr.heap.size) (Nat.le_refl _) Y).below ((Below.refl _ _).drew.trans b1)
        have hvb := fun g hg => show g ≠ wr.heap.size from by have h := (o1.lt g hg).1; simp at h; omega
        refine wpX_one (i := 9) rfl (by kernel_rfl) rfl ?_
        intro K hK
        go_simp
        go_at_call 46
        refine (Insert_any (base := wr.heap.size) k _ Y _ o1i hki (by rw [hdl]; omega) hvb hv bv.size).mono ?_
        rintro e w2 ⟨r, rfl, o2, b2⟩
        obtain ⟨ra, rn, rc, rfl, hrn⟩ := o2.form
        have bx := bv.trans b2
        have hC : _ ∧ True := ⟨HGC.out _ (HBW.out.trans (bx.mono HBW.out.size)), trivial⟩
        refine hK _ _ hC ?_
        clear hK K
        try simp only [Act.put, List.setIfInBounds_toArray, List.set_cons_zero, List.set_cons_succ]
        refine wpX_rest (t := [10, 11, 12]) (l := [_, _, _]) rfl (by kernel_rfl) (by kernel_rfl) ?_
        clear hC
        simp only [List.getElem_toArray, List.getElem_cons_zero, List.getElem_cons_succ]
        have ho := HO.out
        have hz := HBW.out.size
        have HX := Lib.hid bx
        clear b2 bv
        go_wp2_with (at_builtin; refine append_row wr w2 _ _ rfl rfl rfl ho bx o2 rfl hln hz ?_)
        intro v7 w7 o7 b7 z7
        have B7 := Lib.hid ((((HBW.out.trans (HX.out.mono HBW.out.size)).alloc (HBW.out.trans (HX.out.mono HBW.out.size)).size _)).trans b7)
        rw [← HT.out, ← HS.out] at o7
        clear b7 ho o2 bx hrn
        go_wp2
        go_roundw
        case rel => exact ⟨k + 1, by omega, by go_num, o7, B7.out⟩
        case measure => simp [intOf]; omega
    · obtain rfl : k = n := by omega
      go_wp2
      go_ret
      exact ⟨_, rfl, by rw [HW.out]; exact HO.out, hbw⟩
set_option maxRecDepth 100000 in
set_option maxHeartbeats 4000000 in
theorem shuf2_any {u : Value} {d : List Int} (w : World) (ha : SlI w u d) (h1 : 1 ≤ d.length) (h3 : d.length ≤ 3) :
    Calls Try.prog 21 #[u, .int .i64 2] w fun e w' => ∃ r, e = .returned r ∧ OwnII w' w.heap.size r (shufL d 2) ∧ Below w.heap.size w w' := by
  have E0 := Lib.hid (OwnII.empty w (base := w.heap.size) (Nat.le_refl _))
  have B0 := Lib.hid ((Below.refl w.heap.size w).alloc (Nat.le_refl _) (.cells #[] 42))
  have HA := Lib.hid (fun W (h : Below w.heap.size w W) => ha.below h)
  obtain ⟨a, ca, rfl, hca, hcm, hrd⟩ := ha
  unfold maxLen at hcm
  have HW := Lib.hid (show shufL d 2 = (List.range d.length).flatMap fun i => (List.range d.length).map fun k => swapL d i k from rfl)
  have HN := Lib.hid (show d.length ≤ 3 from h3)
  have HEX := Lib.hid (fun i k (hi : i < d.length) (hk : k < d.length) W (h : Below w.heap.size w W) => exchanged_any i k W (HA.out W h) hi hk (by omega))
  generalize hn : d.length = n at HA HW h1 h3 hca HEX ⊢
  have HNN := Lib.hid hn
  clear hrd hn
  go_enter Try.func21, Try.ntmps21
  go_wp2
  go_loopw [5, 39] (fun r i wr => ∃ k : Nat, k ≤ n ∧ i = .int .i64 k ∧ OwnII wr w.heap.size r ((List.range k).flatMap fun i => (List.range n).map fun k => swapL d i k) ∧ Below w.heap.size w wr) (fun _ i _ => n - (intOf i).toNat)
  case atStart => exact ⟨0, Nat.zero_le _, rfl, E0.out, B0.out⟩
  case round =>
    clear E0 B0
    obtain ⟨k, hk, rfl, hown, hbw⟩ := hrel
    have hfl := flatR_len (m := n) (fun a => (List.range n).map fun b => swapL d a b) (fun i => by simp) k
    have hkn9 : k * n ≤ 9 := Nat.mul_le_mul (by omega : k ≤ 3) h3
    by_cases hlt : k < n
    · have i1 : (k : Int) < (n : Int) := by omega
      have HS := Lib.hid (flatR_succ (fun a => (List.range n).map fun b => swapL d a b) k)
      generalize (List.range k).flatMap (fun a => (List.range n).map fun b => swapL d a b) = P at hown hfl HS
      have HO0 := Lib.hid (show OwnII wr w.heap.size u5 (P ++ (List.range 0).map (swapL d k)) from by simpa using hown)
      have HBW0 := Lib.hid hbw
      clear hown hbw
      go_wp2
      go_loopw [5, 43] (fun r i wi => ∃ j : Nat, j ≤ n ∧ i = .int .i64 j ∧ OwnII wi w.heap.size r (P ++ (List.range j).map (swapL d k)) ∧ Below w.heap.size w wi) (fun _ i _ => n - (intOf i).toNat)
      case atStart => exact ⟨0, Nat.zero_le _, rfl, HO0.out, HBW0.out⟩
      case round =>
        clear HO0 HBW0
        obtain ⟨j, hj, rfl, hown, hbw⟩ := hrel
        have HO := Lib.hid hown
        have HBW := Lib.hid hbw
        clear hown hbw
        by_cases hjn : j < n
        · have i2 : (j : Int) < (n : Int) := by omega
          have HJ := Lib.hid (mapR_succ (swapL d k) j)
          have hln : (P ++ (List.range j).map (swapL d k)).length < 16777216 := by simp; omega
          go_wp2_with fail
          refine (HEX.out k j hlt hjn wr HBW.out).mono ?_
          rintro e w4 ⟨rv, rfl, o4, b4⟩
          obtain ⟨ra, rn, rc, rfl, hrn⟩ := o4.form
          have HB4 := Lib.hid (HBW.out.trans (b4.mono HBW.out.size))
          have hb4 := b4
          have ho := HO.out
          have hz := HBW.out.size
          clear b4 hrn
          go_wp2_with (at_builtin; refine append_row wr _ _ _ rfl rfl rfl ho hb4 o4 rfl hln hz ?_)
          intro v7 w7 o7 b7 z7
          have HB7 := Lib.hid ((HB4.out.alloc HB4.out.size _).trans b7)
          have HO7 := Lib.hid (show OwnII w7 w.heap.size v7 (P ++ (List.range (j + 1)).map (swapL d k)) from by rw [HJ.out]; simpa [List.append_assoc] using o7)
          clear b7 o7 ho hb4 o4
          go_wp2
          go_roundw
          case rel => exact ⟨j + 1, by omega, by go_num, HO7.out, HB7.out⟩
          case measure => simp [intOf]; omega
        · obtain rfl : j = n := by omega
          have HO7 := Lib.hid (show OwnII wr w.heap.size u5 ((List.range (k + 1)).flatMap fun a => (List.range j).map fun b => swapL d a b) from by rw [HS.out]; exact HO.out)
          go_wp2
          go_roundw
          case rel => exact ⟨k + 1, by omega, by go_num, HO7.out, HBW.out⟩
          case measure => simp [intOf]; omega
    · obtain rfl : k = n := by omega
      have HO := Lib.hid hown
      go_wp2
      go_ret
      exact ⟨_, rfl, by rw [HW.out]; exact HO.out, hbw⟩
def MemI (w : World) (B0 base : Nat) (u : Value) (xs : List Int) : Prop := OwnI w base u xs ∨ ∀ W, Below B0 w W → SlI W u xs
theorem MemI.below {w w' : World} {B0 base : Nat} {u : Value} {xs : List Int} (h : MemI w B0 base u xs) (hbase : B0 ≤ w.heap.size) (hb : Below w.heap.size w w') : MemI w' B0 base u xs := by
  rcases h with h | h
  · exact .inl (h.below hb)
  · exact .inr (fun W hW => h W ((hb.mono hbase).trans hW))
theorem MemI.sl {w : World} {B0 base : Nat} {u : Value} {xs : List Int} (h : MemI w B0 base u xs) : SlI w u xs := by
  rcases h with h | h
  · exact h.sl
  · exact h w (Below.refl _ _)
/-- rows, some owned and some older -/
def MixII (w : World) (B0 base : Nat) (v : Value) (xss : List (List Int)) : Prop :=
  ∃ vs, w.ownsRow base 42 1 v xss.length vs ∧ vs.length = xss.length ∧ ∀ (i : Nat) (u : Value) (xs : List Int), vs[i]? = some u → xss[i]? = some xs → MemI w B0 base u xs
theorem MixII.below {w w' : World} {B0 base : Nat} {v : Value} {xss : List (List Int)} (h : MixII w B0 base v xss) (hbase : B0 ≤ w.heap.size) (hb : Below w.heap.size w w') : MixII w' B0 base v xss := by
  obtain ⟨vs, h1, h2, h3⟩ := h
  exact ⟨vs, ownsRow_below h1 hb, h2, fun i u xs hu hx => (h3 i u xs hu hx).below hbase hb⟩
theorem MixII.empty (w : World) {B0 base : Nat} (hb : base ≤ w.heap.size) : MixII (w.alloc (.cells #[] 42)) B0 base (.slice (some ⟨w.heap.size, 0, none⟩) 0 0) [] := by
  obtain ⟨vs, h1, h2, h3⟩ := OwnII.empty w hb
  exact ⟨[], by
    have h0 : vs = [] := by simpa using h2
    subst h0; exact h1, rfl, fun i u xs hu => by simp at hu⟩
theorem MixII.sl {w : World} {B0 base : Nat} {v : Value} {xss : List (List Int)} (h : MixII w B0 base v xss) : SlII w v xss := by
  obtain ⟨vs, h1, h2, h3⟩ := h
  obtain ⟨ad, c, e, hc, hm, hr⟩ := ownsRow_rd h1
  exact ⟨ad, c, vs, e, hc, hm, h2, hr, fun i hi u hu => (h3 i u xss[i] hu (List.getElem?_eq_getElem hi)).sl⟩
theorem append_mix2 {ops : Array Oper} {rest : List Oper} {o : Oper} {a : Act} {Q : Exit → Act → World → Prop} (w0 w : World) (s x : Operand) (hg : o.guard = none)
    (ho : o.op = .call { callee := .builtin .append, args := #[s, x], argTypes := #[22, 22] })
    {B0 base : Nat} {v u u2 : Value} {xss : List (List Int)} {xs xs2 : List Int} (hs : a.eval s = v) (hown : MixII w0 B0 base v xss) (hB0 : B0 ≤ base) (hb : Below w0.heap.size w0 w) (hu : ∀ W, Below B0 w0 W → SlI W u xs) (hu2 : OwnI w w0.heap.size u2 xs2)
    {t : Nat} (hx : a.eval x = .slice (some ⟨w.heap.size, 0, none⟩) 2 2)
    (hlen : xss.length < 16777210) (hbase : base ≤ w0.heap.size)
    (h : ∀ v' w', MixII w' B0 base v' (xss ++ [xs, xs2]) → Below base (w.alloc (.cells #[u, u2] t)) w' → w.heap.size < w'.heap.size → wpList Try.prog ops Q rest (a.put o.dst v') w') : wpList Try.prog ops Q (o :: rest) a (w.alloc (.cells #[u, u2] t)) := by
  obtain ⟨vs, h1, h2, h3⟩ := hown
  have hzz := hb.size
  have hbA : Below w.heap.size w (w.alloc (.cells #[u, u2] t)) := (Below.refl _ _).alloc (Nat.le_refl _) _
  have hb0A : Below w0.heap.size w0 (w.alloc (.cells #[u, u2] t)) := hb.trans (hbA.mono hzz)
  have h1' := ownsRow_below h1 hb
  have h1A := ownsRow_below h1 hb0A
  have o1 : u.oneCell' = true := by
    obtain ⟨_, _, rfl, _⟩ := hu w0 (Below.refl _ _); rfl
  have o2 : u2.oneCell' = true := by rcases hu2.2 with ⟨rfl, _⟩ | ⟨g, c, cur, rfl, _⟩ <;> rfl
  obtain ⟨i0, hi, hz0, hz1, hz2⟩ := info_parts tI64S.inf
  have hcell : ∀ j x, [u, u2][j]? = some x → (w.alloc (.cells #[u, u2] t)).cell? ((⟨w.heap.size, 0, none⟩ : Addr).add j) = some x := by
    intro j x hj
    match j, hj with
    | 0, hj => simp at hj; subst hj; simp [Addr.add]
    | 1, hj => simp at hj; subst hj; simp [Addr.add]
    | j + 2, hj => simp at hj
  refine wpList_append_own _ hg s x _ ho base 42 i0 (.slice none 0 0) 1 24 tI64S.und hi hz0 hz1 hz2 tI64S.one (by decide) v xss.length vs hs (h1'.alloc _) ⟨w.heap.size, 0, none⟩ 2 2 [u, u2] hx rfl hcell (by intro x hx; simp at hx; rcases hx with rfl | rfl <;> assumption) (by simp [maxLen]; omega) (by omega) (by simp; omega) (fun v' w' k1 k2 _ => ?_)
  have hsz := k2.size
  simp at hsz
  have hbel : Below base (w.alloc (.cells #[u, u2] t)) w' := (Below.refl _ _).grown k2 (by simp; omega) (fun k hk => (h1'.lt k hk).1)
  refine h v' w' ⟨vs ++ [u, u2], ?_, by simp [h2], ?_⟩ hbel (by omega)
  · rw [List.length_append]; exact k1
  · have key : ∀ (v0 : Value) (zs : List Int), OwnI (w.alloc (.cells #[u, u2] t)) base v0 zs → OwnI w' base v0 zs := fun v0 zs ho => ho.kept k2 (by
      cases hb : v0.ownBlock with
      | none => exact .inl rfl
      | some g => exact .inr (Ne.symm (ho.apart h1A hb)))
    have hb0' : Below B0 w0 w' := ((hb0A.mono hbase).trans hbel).mono hB0
    intro i u0 m hi hm
    by_cases hlt : i < vs.length
    · rw [List.getElem?_append_left hlt] at hi
      rw [List.getElem?_append_left (by rw [← h2]; exact hlt)] at hm
      rcases h3 i u0 m hi hm with hh | hh
      · exact .inl (key _ _ (hh.below hb0A))
      · exact .inr (fun W hW => hh W (hb0'.trans hW))
    · rw [List.getElem?_append_right (by omega)] at hi hm
      rw [← h2] at hm
      match hq : i - vs.length, hi, hm with
      | 0, hi, hm =>
        simp at hi hm
        subst hi hm
        exact .inr (fun W hW => hu W (hb0'.trans hW))
      | 1, hi, hm =>
        simp at hi hm
        subst hi hm
        exact .inl (key _ _ ((hu2.lower hbase).below hbA))
      | q + 2, hi, hm => simp at hi
theorem MixII.fs {S : Nat → Prop} {w w' : World} {B0 base : Nat} {v : Value} {xss : List (List Int)} (h : MixII w B0 base v xss) (hf : Fs S w w') (hS : ∀ k, S k → B0 ≤ k ∧ k < base) (hB : B0 ≤ w.heap.size) : MixII w' B0 base v xss := by
  obtain ⟨vs, h1, h2, h3⟩ := h
  refine ⟨vs, ownsRow_fs h1 hf (fun k hk => (hS k hk).2), h2, fun i u xs hu hx => ?_⟩
  rcases h3 i u xs hu hx with hh | hh
  · exact .inl (hh.fs hf (fun k hk => (hS k hk).2))
  · exact .inr (fun W hW => hh W ((hf.below hB (fun k hk => (hS k hk).1)).trans hW))
set_option maxRecDepth 100000 in
set_option maxHeartbeats 4000000 in
theorem shuf3_any {u : Value} {d : List Int} {Bd : Nat} (w : World) (hB : Bd ≤ w.heap.size) (hd : ∀ W, Below Bd w W → SlI W u d) (h1 : 1 ≤ d.length) (h3 : d.length ≤ 3) :
    Calls Try.prog 21 #[u, .int .i64 3] w fun e w' => ∃ r, e = .returned r ∧ MixII w' Bd w.heap.size r (shufL d 3) ∧ Below w.heap.size w w' := by
  have HA0 := Lib.hid hd
  have HBB := Lib.hid hB
  have ha := hd w (Below.refl _ _)
  clear hd
  have E0 := Lib.hid (MixII.empty w (B0 := Bd) (base := w.heap.size) (Nat.le_refl _))
  have B0 := Lib.hid ((Below.refl w.heap.size w).alloc (Nat.le_refl _) (.cells #[] 42))
  have HA := Lib.hid (fun W (h : Below w.heap.size w W) => ha.below h)
  obtain ⟨a, ca, hue, hca, hcm, hrd⟩ := ha
  subst hue
  unfold maxLen at hcm
  have HW := Lib.hid (show shufL d 3 = (List.range d.length).flatMap fun i => [d, swapL d i (min (i + 1) (d.length - 1))] from rfl)
  have HEX := Lib.hid (fun i k (hi : i < d.length) (hk : k < d.length) W (h : Below w.heap.size w W) => exchanged_any i k W (HA.out W h) hi hk (by omega))
  generalize hn : d.length = n at HA HA0 HW h1 h3 hca HEX ⊢
  obtain ⟨CF, hCF⟩ : ∃ CF : Nat → List (List Int), CF = fun i => [d, swapL d i (min (i + 1) (n - 1))] := ⟨_, rfl⟩
  have HCF := Lib.hid (show ∀ k, CF k = [d, swapL d k (min (k + 1) (n - 1))] from fun k => by rw [hCF])
  have HCL := Lib.hid (show ∀ k, (CF k).length ≤ 2 from fun k => by rw [hCF]; simp)
  rw [← hCF] at HW
  clear hrd hn hCF
  go_enter Try.func21, Try.ntmps21
  go_wp2
  go_loopw [5, 58] (fun r i wr => ∃ k : Nat, k ≤ n ∧ i = .int .i64 k ∧ MixII wr Bd w.heap.size r ((List.range k).flatMap CF) ∧ Below w.heap.size w wr) (fun _ i _ => n - (intOf i).toNat)
  case atStart => exact ⟨0, Nat.zero_le _, rfl, E0.out, B0.out⟩
  case round =>
    clear E0 B0
    obtain ⟨k, hk, rfl, hown, hbw⟩ := hrel
    by_cases hlt : k < n
    · have i1 : (k : Int) < (n : Int) := by omega
      have hfl := flatR_len (m := 2) CF HCL.out k
      have HS := Lib.hid (flatR_succ CF k)
      generalize (List.range k).flatMap CF = P at hown hfl HS
      obtain ⟨m, hm⟩ : ∃ m, m = min (k + 1) (n - 1) := ⟨_, rfl⟩
      have hmn : m < n := by omega
      have HS2 := Lib.hid (show (List.range (k + 1)).flatMap CF = P ++ [d, swapL d k m] from by rw [HS.out, HCF.out, hm])
      have HO := Lib.hid hown
      have HBW := Lib.hid hbw
      have r1 : IntKind.i64.wrap ((k : Int) + 1) = (k : Int) + 1 := IntWalk.i64_in _ (by omega)
      have r2 : IntKind.i64.wrap ((n : Int) - 1) = (n : Int) - 1 := IntWalk.i64_in _ (by omega)
      have HM := Lib.hid hm
      have hln : P.length < 16777210 := by omega
      clear hown hbw hm
      go_wp2_with fail
      all_goals
        have hm := HM.out
        first
          | rw [show (k : Int) + 1 = (m : Int) from by omega]
          | rw [show (n : Int) - 1 = (m : Int) from by omega]
        clear hm
        refine (HEX.out k m hlt hmn wr HBW.out).mono ?_
        rintro e w4 ⟨rv, rfl, o4, b4⟩
        obtain ⟨ra, rn, rc, rfl, hrn⟩ := o4.form
        have HB4 := Lib.hid (HBW.out.trans (b4.mono HBW.out.size))
        have hb4 := b4
        have ho := HO.out
        have hz := HBW.out.size
        clear b4 hrn
        go_wp2_with (at_builtin; refine append_mix2 wr w4 _ _ rfl rfl rfl ho HBB.out hb4 (fun W h => HA0.out W ((HBW.out.mono HBB.out).trans h)) o4 rfl hln hz ?_)
        intro v7 w7 o7 b7 z7
        have HB7 := Lib.hid ((HB4.out.alloc HB4.out.size _).trans b7)
        rw [← HS2.out] at o7
        clear b7 ho hb4 o4
        go_wp2
        go_roundw
        case rel => exact ⟨k + 1, by omega, by go_num, o7, HB7.out⟩
        case measure => simp [intOf]; omega
    · obtain rfl : k = n := by omega
      have HO := Lib.hid hown
      go_wp2
      go_ret
      exact ⟨_, rfl, by rw [HW.out]; exact HO.out, hbw⟩
theorem rd_new2 (w : World) (u u2 : Value) (t : Nat) : Rd (w.alloc (.cells #[u, u2] t)) (some ⟨w.heap.size, 0, none⟩) [u, u2] := rd_new w #[u, u2] t
theorem SlII.two {w : World} {a : Option Addr} {u u2 : Value} {xs xs2 : List Int} (hr : Rd w a [u, u2]) (h1 : SlI w u xs) (h2 : SlI w u2 xs2) : SlII w (.slice a 2 2) [xs, xs2] := by
  refine ⟨a, 2, [u, u2], rfl, by simp, by simp [maxLen], rfl, hr, ?_⟩
  intro i hi v hv
  match i, hv with
  | 0, hv => simp at hv; subst hv; exact h1
  | 1, hv => simp at hv; subst hv; exact h2
  | i + 2, hv => simp at hv
set_option maxRecDepth 100000 in
set_option maxHeartbeats 4000000 in
theorem shuf4_any {u : Value} {d : List Int} (w : World) (ha : SlI w u d) (h1 : 1 ≤ d.length) (h3 : d.length ≤ 3) :
    Calls Try.prog 21 #[u, .int .i64 4] w fun e w' => ∃ r, e = .returned r ∧ OwnII w' w.heap.size r (shufL d 4) ∧ Below w.heap.size w w' := by
  have E0 := Lib.hid (OwnII.empty w (base := w.heap.size) (Nat.le_refl _))
  have B0 := Lib.hid ((Below.refl w.heap.size w).alloc (Nat.le_refl _) (.cells #[] 42))
  have HA := Lib.hid (fun W (h : Below w.heap.size w W) => ha.below h)
  obtain ⟨a, ca, rfl, hca, hcm, hrd⟩ := ha
  obtain ⟨g, off, hae, gy⟩ := hrd.one (i64s_get (show 0 < d.length by omega))
  have hgs := cell_lt gy
  subst hae
  unfold maxLen at hcm
  have HW := Lib.hid (show shufL d 4 = (List.range d.length).map fun k => d.drop k ++ d.take k from rfl)
  obtain ⟨CF, hCF⟩ : ∃ CF : Nat → List Int, CF = fun k => d.drop k ++ d.take k := ⟨_, rfl⟩
  have HCF := Lib.hid (show ∀ k, CF k = d.drop k ++ d.take k from fun k => by rw [hCF])
  rw [← hCF] at HW
  have HLE := Lib.hid (fun k => show (d.drop k).length ≤ 3 ∧ (d.take k).length ≤ 3 from by rw [List.length_drop, List.length_take]; omega)
  obtain ⟨n, hn⟩ : ∃ n, n = d.length := ⟨_, rfl⟩
  rw [← hn] at HA HW h1 h3 hca ⊢
  have HD := Lib.hid (fun k (hk : k ≤ n) W (h : Below w.heap.size w W) => (HA.out W h).drop1 (k := k) hk)
  have HTK := Lib.hid (fun k (hk : k ≤ n) W (h : Below w.heap.size w W) => (HA.out W h).take1 (k := k) hk)
  clear hrd gy hn HA hCF
  go_enter Try.func21, Try.ntmps21
  go_wp2
  go_loopw [5, 77] (fun r i wr => ∃ k : Nat, k ≤ n ∧ i = .int .i64 k ∧ OwnII wr w.heap.size r ((List.range k).map CF) ∧ Below w.heap.size w wr) (fun _ i _ => n - (intOf i).toNat)
  case atStart => exact ⟨0, Nat.zero_le _, rfl, E0.out, B0.out⟩
  case round =>
    clear E0 B0
    obtain ⟨k, hk, rfl, hown, hbw⟩ := hrel
    have HO := Lib.hid hown
    have HBW := Lib.hid hbw
    by_cases hlt : k < n
    · have i1 : (k : Int) < (n : Int) := by omega
      have i2 : (k : Int) ≤ (n : Int) := by omega
      have i3 : (k : Int) ≤ (ca : Int) := by omega
      have i4 : (0 : Int) ≤ (k : Int) := by omega
      have HS := Lib.hid (mapR_succ CF k)
      have hln : ((List.range k).map CF).length < 16777216 := by simp; omega
      have hle := HLE.out k
      obtain ⟨ad, had⟩ : ∃ ad : Option Addr, ad = if ca = k then some ⟨g, off, none⟩ else some ⟨g, off + k, none⟩ := ⟨_, rfl⟩
      have HAD := Lib.hid had
      clear hown had
      go_wp2_with fail
      refine wpX_start (fun W => True) [9, 10, 11] (by kernel_rfl) ?_
      have b0 : Below wr.heap.size wr wr.drew := (Below.refl _ _).drew
      have hC : True := trivial
      refine wpX_free (i := 0) (v := ?_) rfl (by kernel_rfl) (fun _ _ _ h => h) rfl (fun w' => ?_) ?_
      rotate_left
      · go_simp; try with_reducible rfl
      try simp only [Act.put, List.setIfInBounds_toArray, List.set_cons_zero, List.set_cons_succ]
      refine wpX_free (i := 1) (v := ?_) rfl (by kernel_rfl) (fun _ _ _ h => h) rfl (fun w' => ?_) ?_
      rotate_left
      · go_simp; try with_reducible rfl
      try simp only [Act.put, List.setIfInBounds_toArray, List.set_cons_zero, List.set_cons_succ]
      refine wpX_free (i := 2) (v := ?_) rfl (by kernel_rfl) (fun _ _ _ h => h) rfl (fun w' => ?_) ?_
      rotate_left
      · go_simp; try with_reducible rfl
      try simp only [Act.put, List.setIfInBounds_toArray, List.set_cons_zero, List.set_cons_succ]
      refine wpX_free (i := 3) (v := ?_) rfl (by kernel_rfl) (fun _ _ _ h => h) rfl (fun w' => ?_) ?_
      rotate_left
      · go_simp; try with_reducible rfl
      try simp only [Act.put, List.setIfInBounds_toArray, List.set_cons_zero, List.set_cons_succ]
      refine wpX_free (i := 4) (v := ?_) rfl (by kernel_rfl) (fun _ _ _ h => h) rfl (fun w' => ?_) ?_
      rotate_left
      · go_simp; try with_reducible rfl
      try simp only [Act.put, List.setIfInBounds_toArray, List.set_cons_zero, List.set_cons_succ]
      refine wpX_free (i := 5) (v := ?_) rfl (by kernel_rfl) (fun _ _ _ h => h) rfl (fun w' => ?_) ?_
      rotate_left
      · go_simp; try with_reducible rfl
      try simp only [Act.put, List.setIfInBounds_toArray, List.set_cons_zero, List.set_cons_succ]
      refine wpX_free (i := 6) (v := ?_) rfl (by kernel_rfl) (fun _ _ _ h => h) rfl (fun w' => ?_) ?_
      rotate_left
      · go_simp; try with_reducible rfl
      try simp only [Act.put, List.setIfInBounds_toArray, List.set_cons_zero, List.set_cons_succ]
      refine wpX_one (i := 7) rfl (by kernel_rfl) rfl ?_
      intro K hK
      go_simp
      rw [← HAD.out]
      refine hK _ _ hC ?_
      clear hK K
      try simp only [Act.put, List.setIfInBounds_toArray, List.set_cons_zero, List.set_cons_succ]
      refine wpX_one (i := 8) rfl (by kernel_rfl) rfl ?_
      intro K hK
      go_simp
      go_at_call 48
      have ba : Below wr.heap.size wr ((wr.alloc (.cells #[.slice ad (n - k) (ca - k), .slice (some ⟨g, off, none⟩) k ca] 42)).drew) := ((Below.refl _ _).alloc (Nat.le_refl _) _).drew
      have hs1 := HD.out k hk _ (HBW.out.trans (ba.mono HBW.out.size))
      rw [← HAD.out] at hs1
      have hs2 := HTK.out k hk _ (HBW.out.trans (ba.mono HBW.out.size))
      refine (Concat_any _ (SlII.two ((rd_new2 wr _ _ _).below (Below.refl _ _).drew) hs1 hs2) (by simp; omega) (by simp)).mono ?_
      rintro e w2 ⟨r, rfl, o2, b2⟩
      obtain ⟨ra, rn, rc, rfl, hrn⟩ := o2.form
      have bx : Below wr.heap.size wr w2 := ba.trans (b2.mono ba.size)
      have o2 := o2.lower (base' := wr.heap.size) ba.size
      refine hK _ _ hC ?_
      clear hK K
      try simp only [Act.put, List.setIfInBounds_toArray, List.set_cons_zero, List.set_cons_succ]
      refine wpX_rest (t := [9, 10, 11]) (l := [_, _, _]) rfl (by kernel_rfl) (by kernel_rfl) ?_
      clear hC
      simp only [List.getElem_toArray, List.getElem_cons_zero, List.getElem_cons_succ]
      have ho := HO.out
      have hz := HBW.out.size
      have HX := Lib.hid bx
      clear b2 ba hs1 hs2
      go_wp2_with (at_builtin; refine append_row wr w2 _ _ rfl rfl rfl ho bx o2 rfl hln hz ?_)
      intro v7 w7 o7 b7 z7
      have B7 := Lib.hid ((((HBW.out.trans (HX.out.mono HBW.out.size)).alloc (HBW.out.trans (HX.out.mono HBW.out.size)).size _)).trans b7)
      have O7 := Lib.hid (show OwnII w7 w.heap.size v7 ((List.range (k + 1)).map CF) from by rw [HS.out, HCF.out]; simpa using o7)
      clear b7 ho o2 bx hrn o7
      go_wp2
      go_roundw
      case rel => exact ⟨k + 1, by omega, by go_num, O7.out, B7.out⟩
      case measure => simp [intOf]; omega
    · obtain rfl : k = n := by omega
      go_wp2
      go_ret
      exact ⟨_, rfl, by rw [HW.out]; exact HO.out, hbw⟩
set_option maxRecDepth 100000 in
set_option maxHeartbeats 4000000 in
theorem shuf5_any {u : Value} {d : List Int} (w : World) (ha : SlI w u d) (h1 : 1 ≤ d.length) (h3 : d.length ≤ 3) :
    Calls Try.prog 21 #[u, .int .i64 5] w fun e w' => ∃ r, e = .returned r ∧ OwnII w' w.heap.size r (shufL d 5) ∧ Below w.heap.size w w' := by
  have E0 := Lib.hid (OwnII.empty w (base := w.heap.size) (Nat.le_refl _))
  have B0 := Lib.hid ((Below.refl w.heap.size w).alloc (Nat.le_refl _) (.cells #[] 42))
  have HA := Lib.hid (fun W (h : Below w.heap.size w W) => ha.below h)
  obtain ⟨a, ca, rfl, hca, hcm, hrd⟩ := ha
  unfold maxLen at hcm
  have HW := Lib.hid (show shufL d 5 = (List.range (2 ^ d.length)).map (rifD d) from rfl)
  have HRF := Lib.hid (fun b (hb : b < 2 ^ 29) W (h : Below w.heap.size w W) => riffled_any b W (HA.out W h) hb (by omega))
  generalize hn : d.length = n at HA HW h1 h3 hca HRF ⊢
  have hp : 2 ^ n ≤ 8 := by have : 2 ^ n ≤ 2 ^ 3 := Nat.pow_le_pow_right (by omega) h3; omega
  obtain ⟨N, hN⟩ : ∃ N, N = 2 ^ n := ⟨_, rfl⟩
  rw [← hN] at HW hp
  have s1 : (2 : Int) ^ n = (N : Int) := by rw [hN]; simp
  have s2 : (2 : Int) ^ min n 64 = (N : Int) := by rw [Nat.min_eq_left (by omega)]; exact s1
  have s3 : IntKind.i64.wrap (N : Int) = (N : Int) := IntWalk.i64_in _ (by omega)
  have n0 : (0 : Int) ≤ (n : Int) := by omega
  clear hrd hn hN
  go_enter Try.func21, Try.ntmps21
  go_wp2
  go_loopw [5, 96] (fun r i wr => ∃ k : Nat, k ≤ N ∧ i = .int .i64 k ∧ OwnII wr w.heap.size r ((List.range k).map (rifD d)) ∧ Below w.heap.size w wr) (fun _ i _ => N - (intOf i).toNat)
  case atStart => exact ⟨0, Nat.zero_le _, rfl, E0.out, B0.out⟩
  case round =>
    clear E0 B0
    obtain ⟨k, hk, rfl, hown, hbw⟩ := hrel
    have HO := Lib.hid hown
    have HBW := Lib.hid hbw
    clear hown
    by_cases hlt : k < N
    · have i1 : (k : Int) < (N : Int) := by omega
      have HJ := Lib.hid (mapR_succ (rifD d) k)
      have hln : ((List.range k).map (rifD d)).length < 16777216 := by simp; omega
      clear hbw
      go_wp2_with fail
      refine (HRF.out k (by omega) wr HBW.out).mono ?_
      rintro e w4 ⟨rv, rfl, o4, b4⟩
      obtain ⟨ra, rn, rc, rfl, hrn⟩ := o4.form
      have HB4 := Lib.hid (HBW.out.trans (b4.mono HBW.out.size))
      have hb4 := b4
      have ho := HO.out
      have hz := HBW.out.size
      clear b4 hrn
      go_wp2_with (at_builtin; refine append_row wr _ _ _ rfl rfl rfl ho hb4 o4 rfl hln hz ?_)
      intro v7 w7 o7 b7 z7
      have HB7 := Lib.hid ((HB4.out.alloc HB4.out.size _).trans b7)
      rw [← HJ.out] at o7
      clear b7 ho hb4 o4
      go_wp2
      go_roundw
      case rel => exact ⟨k + 1, by omega, by go_num, o7, HB7.out⟩
      case measure => simp [intOf]; omega
    · obtain rfl : k = N := by omega
      go_wp2
      go_ret
      exact ⟨_, rfl, by rw [HW.out]; exact HO.out, hbw⟩
/-- the decks to which the ways of a shuffle lead: they stay where nothing is written but between B0 and the old memory's end -/
theorem shuffles_any {u : Value} {d : List Int} {B0 : Nat} (k : Nat) (w : World) (hB : B0 ≤ w.heap.size) (hd : ∀ W, Below B0 w W → SlI W u d) (h1 : 1 ≤ d.length) (h3 : d.length ≤ 3) (k1 : 1 ≤ k) (k5 : k ≤ 5) :
    Calls Try.prog 21 #[u, .int .i64 k] w fun e w' => ∃ r, e = .returned r ∧ (∃ a c, r = .slice a (shufL d k).length c) ∧ (∀ W, Fs (fun k => B0 ≤ k ∧ k < w.heap.size) w' W → SlII W r (shufL d k)) ∧ Below w.heap.size w w' := by
  have ha := hd w (Below.refl _ _)
  have own : ∀ (r : Value) (w' : World), OwnII w' w.heap.size r (shufL d k) → (∃ a c, r = .slice a (shufL d k).length c) ∧ ∀ W, Fs (fun k => B0 ≤ k ∧ k < w.heap.size) w' W → SlII W r (shufL d k) := by
    intro r w' h
    refine ⟨?_, fun W hf => (h.fs hf (fun k hk => hk.2)).sl⟩
    obtain ⟨a, c, vs, e, _⟩ := h.sl
    exact ⟨a, c, e⟩
  rcases (by omega : k = 1 ∨ k = 2 ∨ k = 3 ∨ k = 4 ∨ k = 5) with rfl | rfl | rfl | rfl | rfl
  · refine (shuf1_any w ha h1 h3).mono ?_
    rintro e w' ⟨r, rfl, o, b⟩
    exact ⟨r, rfl, (own r w' o).1, (own r w' o).2, b⟩
  · refine (shuf2_any w ha h1 h3).mono ?_
    rintro e w' ⟨r, rfl, o, b⟩
    exact ⟨r, rfl, (own r w' o).1, (own r w' o).2, b⟩
  · refine (shuf3_any w hB hd h1 h3).mono ?_
    rintro e w' ⟨r, rfl, o, b⟩
    refine ⟨r, rfl, ?_, fun W hf => (o.fs hf (fun k hk => hk) (Nat.le_trans hB b.size)).sl, b⟩
    obtain ⟨a, c, vs, e, _⟩ := o.sl
    exact ⟨a, c, e⟩
  · refine (shuf4_any w ha h1 h3).mono ?_
    rintro e w' ⟨r, rfl, o, b⟩
    exact ⟨r, rfl, (own r w' o).1, (own r w' o).2, b⟩
  · refine (shuf5_any w ha h1 h3).mono ?_
    rintro e w' ⟨r, rfl, o, b⟩
    exact ⟨r, rfl, (own r w' o).1, (own r w' o).2, b⟩
end Go.Proofs.Ytjbjkfahfjoigaa
