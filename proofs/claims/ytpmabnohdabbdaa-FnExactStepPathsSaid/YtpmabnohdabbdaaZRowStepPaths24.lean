/-
  First shortest paths by levels of simple paths: the reference's side. With it: Reachable states and closed classes: the reference's side. Closed classes, connected chains and codes: the reference's side.
-/
import Derived.Test.YtpmabnohdabbdaaZRowStepPaths19
import Derived.Test.YtpmabnohdabbdaaZRowStepPaths22
import Derived.Test.YtpmabnohdabbdaaZRowStepPaths23
import Derived.Test.YtpmabnohdabbdaaZRowStepPaths8
set_option linter.unusedVariables false
set_option linter.unusedSimpArgs false
namespace Go.Proofs.Ytpmabnohdabbdaa
open Go.RowKit Go.Sort
theorem putL_mem {n x : Int} : ∀ {l : List Int}, x ∈ putL n l ↔ x = n ∨ x ∈ l
  | [] => by simp [putL]
  | y :: r => by
    unfold putL
    have ih := putL_mem (n := n) (x := x) (l := r)
    by_cases h1 : y < n
    · rw [if_pos h1, List.mem_cons, ih, List.mem_cons]
      constructor
      · rintro (h | h | h) <;> simp [h]
      · rintro (h | h | h) <;> simp [h]
    · rw [if_neg h1]
      by_cases h2 : y = n
      · rw [if_pos h2, List.mem_cons]
        constructor
        · rintro (h | h) <;> simp [h]
        · rintro (h | h | h)
          · exact .inl (by omega)
          · exact .inl h
          · exact .inr h
      · rw [if_neg h2]; simp
theorem putL_pair {n : Int} : ∀ {l : List Int}, l.Pairwise (· < ·) → n ∉ l → (putL n l).Pairwise (· < ·)
  | [], _, _ => by simp [putL]
  | y :: r, h, hn => by
    rw [List.pairwise_cons] at h
    have hr : n ∉ r := fun e => hn (by simp [e])
    have hy : y ≠ n := fun e => hn (by simp [e])
    unfold putL
    by_cases h1 : y < n
    · rw [if_pos h1, List.pairwise_cons]
      refine ⟨fun x hx => ?_, putL_pair h.2 hr⟩
      rcases putL_mem.1 hx with rfl | hx
      · exact h1
      · exact h.1 x hx
    · rw [if_neg h1, if_neg hy, List.pairwise_cons]
      refine ⟨fun x hx => ?_, List.pairwise_cons.2 h⟩
      rcases List.mem_cons.1 hx with rfl | hx
      · omega
      · have := h.1 x hx; omega
structure RisM (A : List Int) (L : List Nat) : Prop where
  ris : A.Pairwise (· < ·)
  mem : ∀ x : Int, x ∈ A ↔ ∃ t : Nat, t ∈ L ∧ x = t
theorem RisM.one (s : Nat) : RisM [(s : Int)] [s] := ⟨by simp, fun x => by simp⟩
theorem RisM.has {A : List Int} {L : List Nat} (h : RisM A L) (j : Nat) : decide ((j : Int) ∈ A) = decide (j ∈ L) := by
  rw [Bool.eq_iff_iff, decide_eq_true_iff, decide_eq_true_iff, h.mem]
  constructor
  · rintro ⟨t, h1, h2⟩
    have : j = t := by omega
    subst this; exact h1
  · intro h1; exact ⟨j, h1, rfl⟩
theorem RisM.put {A : List Int} {L : List Nat} (h : RisM A L) {j : Nat} (hj : j ∉ L) : RisM (putL j A) (L ++ [j]) := by
  have hn : (j : Int) ∉ A := fun e => by
    obtain ⟨t, h1, h2⟩ := (h.mem _).1 e
    have : j = t := by omega
    subst this; exact hj h1
  refine ⟨putL_pair h.ris hn, fun x => ?_⟩
  rw [putL_mem, h.mem]
  constructor
  · rintro (rfl | ⟨t, h1, h2⟩)
    · exact ⟨j, by simp, rfl⟩
    · exact ⟨t, by simp [h1], h2⟩
  · rintro ⟨t, h1, h2⟩
    rcases List.mem_append.1 h1 with h1 | h1
    · exact .inr ⟨t, h1, h2⟩
    · rw [List.mem_singleton] at h1; subst h1; exact .inl h2
theorem RisM.len {A : List Int} {L : List Nat} {n : Nat} (h : RisM A L) (hL : ∀ t ∈ L, t < n) : A.length ≤ n := by
  have hnd : A.Nodup := h.ris.imp (fun h => by omega)
  have hsub : A ⊆ (List.range n).map (fun t : Nat => (t : Int)) := by
    intro x hx
    obtain ⟨t, h1, rfl⟩ := (h.mem x).1 hx
    rw [List.mem_map]
    exact ⟨t, List.mem_range.2 (hL t h1), rfl⟩
  have := List.Nodup.length_le_of_subset hnd hsub
  simpa using this
theorem l00Has_e {u : Value} {xs : List Int} {x : Int} {q : Bool} (h : decide (x ∈ xs) = q) (w : World) (ha : SlI w u xs) :
    Calls Try.prog 149 #[u, .int .i64 x] w fun e w' => e = .returned (.bool q) ∧ w = w' :=
  (l00Has_any x w ha).mono fun e w' ⟨h1, h2⟩ => ⟨by rw [h1, h], h2⟩

set_option maxRecDepth 100000 in
set_option maxHeartbeats 8000000 in
theorem l02Reached_any {v : Value} {xss : List (List Int)} {tt : Int} (b o n s : Nat) (w : World) (hc : ChainAt w b o n tt v) (ha : SlII w v xss) (hv : chainOk n tt xss = true) (hs : s < n) :
    Calls Try.prog 196 #[.pointer (some ⟨b, o, none⟩), .int .i64 s] w fun e w' => ∃ r, e = .returned r ∧ OwnI w' w.heap.size r (reachL xss n s) ∧ Below w.heap.size w w' := by
  have HA := Lib.hid (fun W (h : Below w.heap.size w W) => ha.below h)
  have HC := Lib.hid (fun W (h : Below w.heap.size w W) => hc.below h)
  obtain ⟨a, ca, us, rfl, _, _, _, _, _⟩ := ha
  obtain ⟨⟨hn1, hn2⟩, ⟨ht1, ht2⟩, hnx, _⟩ := chainOk_parts0 hv
  have hnx' : xss.length = n := by omega
  have HNX := Lib.hid hnx'
  rw [hnx'] at HA HC
  have HV := Lib.hid hv
  have l1 := OwnI.lit1 w (base := w.heap.size) (Nat.le_refl _) s
  have bA : Below w.heap.size w (w.alloc (.cells #[.int .i64 s] 2)) := (Below.refl _ _).alloc (Nat.le_refl _) _
  have bB : Below (w.alloc (.cells #[.int .i64 s] 2)).heap.size (w.alloc (.cells #[.int .i64 s] 2)) ((w.alloc (.cells #[.int .i64 s] 2)).alloc (.cells #[.int .i64 s] 2)) := (Below.refl _ _).alloc (Nat.le_refl _) _
  have L1 := Lib.hid (l1.below bB)
  have Q1 := Lib.hid (QuI.one (w.alloc (.cells #[.int .i64 s] 2)) (base := w.heap.size) (by simp) s)
  have B1 := Lib.hid (bA.trans (bB.mono bA.size))
  clear hv hnx hnx' l1 bA bB hc
  go_enter Try.func196, Try.ntmps196
  go_wp2
  go_loopg [5, 6] (n + 1) (fun f ov tv wr => ∃ (q : Nat) (L : List Nat) (A : List Int), (q ≤ L.length ∧ f = n + 1 - q) ∧ Hid (BfsI xss n s L q 0) ∧ Hid (RisM A L) ∧ OwnI wr w.heap.size ov A ∧ QuI wr w.heap.size tv (intsL (L.drop q)) ∧ Below w.heap.size w wr)
  case atStart => exact ⟨0, [s], [(s : Int)], ⟨by simp, by omega⟩, Lib.hid (BfsI.first hs), Lib.hid (RisM.one s), L1.out, by have h := Q1.out; simpa [intsL] using h, B1.out⟩
  case round =>
    clear L1 Q1 B1
    obtain ⟨q, L, A, ⟨hq, rfl⟩, hI, hR, hown, hqu, hbw⟩ := hrel
    have hLn := hI.out.len
    have HBW := Lib.hid hbw
    have HO := Lib.hid hown
    clear hown
    by_cases hql : q < L.length
    · have hdl : (intsL (L.drop q)).length = L.length - q := by rw [intsL_len, List.length_drop]
      have hdc : L.drop q = L[q] :: L.drop (q + 1) := List.drop_eq_getElem_cons hql
      obtain ⟨u, hu⟩ : ∃ u, u = L[q] := ⟨_, rfl⟩
      rw [← hu] at hdc
      have HU := Lib.hid (show L[q]? = some u by rw [hu]; exact List.getElem?_eq_getElem hql)
      have hun : u < n := by rw [hu]; exact (hI.out.all _ (List.getElem_mem hql)).1
      rcases hqu with ⟨g, of, c, pre, rfl, hpl, hxc, hqo⟩ | ⟨_, _, hnil⟩
      · rw [hdl] at hxc hqo ⊢
        have hgc := OwnI.cell hqo (i := of) (by rw [List.length_append, hdl]; omega)
        rw [List.getElem_append_right (by omega)] at hgc
        have he : (intsL (L.drop q))[of - pre.length]'(by rw [hdl]; omega) = (u : Int) := by
          rw [intsL_get]
          simp only [hpl, Nat.sub_self, List.getElem_drop, Nat.add_zero, hu]
        rw [he] at hgc
        have i0 : (0 : Int) < ((L.length - q : Nat) : Int) := by omega
        have hdi : intsL (L.drop q) = (u : Int) :: intsL (L.drop (q + 1)) := by rw [hdc]; rfl
        rw [hdi] at hqo
        have QO := Lib.hid hqo
        have hcm : c ≤ 9223372036854775807 := by
          obtain ⟨_, _, hee, _, hcm, _⟩ := hqo.sl
          simp only [Value.slice.injEq] at hee
          obtain ⟨_, _, rfl⟩ := hee
          unfold maxLen at hcm
          omega
        have hl2 : (intsL (L.drop (q + 1))).length = L.length - q - 1 := by rw [intsL_len, List.length_drop]; omega
        have QN1 := Lib.hid (show 1 < c → QuI wr w.heap.size (.slice (some ⟨g, of + 1, none⟩) (L.length - q - 1) (c - 1)) (intsL (L.drop (q + 1))) from fun hc => .inl ⟨g, of + 1, c - 1, pre ++ [(u : Int)], by rw [hl2], by simp [hpl], by omega, by
          rw [hl2, List.append_assoc]
          have e1 : of + 1 + (L.length - q - 1) = of + (L.length - q) := by omega
          have e2 : of + 1 + (c - 1) = of + c := by omega
          rw [e1, e2]; exact hqo⟩)
        have hl3 : c = 1 → L.length - q - 1 = 0 := fun hc => by omega
        have QN2 := Lib.hid (show c = 1 → QuI wr w.heap.size (.slice (some ⟨g, of, none⟩) (L.length - q - 1) 0) (intsL (L.drop (q + 1))) from fun hc => .inr ⟨⟨g, of, none⟩, by rw [hl3 hc], List.length_eq_zero_iff.1 (by rw [hl2]; exact hl3 hc)⟩)
        have hc0 : 1 ≤ c := by omega
        obtain ⟨c00, x0, x1⟩ := HC.out _ hbw
        clear hu hdl hdc hdi he hbw hqo hl2 hl3
        go_wp2
        all_goals
          go_loopw [5, 6, 8] (fun ov tv x w3 => ∃ (j : Nat) (L' : List Nat) (A' : List Int), x = .int .i64 j ∧ j ≤ n ∧ q < L'.length ∧ Hid (BfsI xss n s L' q j) ∧ Hid (RisM A' L') ∧ Hid (L'[q]? = some u) ∧ OwnI w3 w.heap.size ov A' ∧ QuI w3 w.heap.size tv (intsL (L'.drop (q + 1))) ∧ Below w.heap.size w w3) (fun _ _ x _ => n - (intOf x).toNat)
          case atStart => first | exact ⟨0, L, A, rfl, Nat.zero_le _, hql, hI, hR, HU, HO.out, QN1.out (by omega), HBW.out⟩ | exact ⟨0, L, A, rfl, Nat.zero_le _, hql, hI, hR, HU, HO.out, QN2.out (by omega), HBW.out⟩
          case round =>
            clear HO HBW QN1 QN2 QO hgc x0 x1 c00
            obtain ⟨j, L', A', rfl, hj, hqL, hI', hR', hU', hown, hqu, hbw⟩ := hrel
            have hLn' := hI'.out.len
            have HBW := Lib.hid hbw
            have HO := Lib.hid hown
            have HQ := Lib.hid hqu
            have hal := hR'.out.len (fun t ht => (hI'.out.all t ht).1)
            have HLU := Lib.hid (show L'[q] = u from by have := hU'.out; rw [List.getElem?_eq_getElem hqL] at this; simpa using this)
            obtain ⟨c00, x0, x1, x2⟩ := HC.out _ hbw
            obtain ⟨oa, oc, rfl, _, _, _⟩ := id hown.sl
            clear hown hqu
            by_cases hjn : j < n
            · have i4 : (j : Int) < (n : Int) := by omega
              have i5 : (0 : Int) ≤ (j : Int) := by omega
              have i2 : (0 : Int) ≤ (u : Int) := by omega
              have i3 : (u : Int) < (n : Int) := by omega
              have hux : u < xss.length := by rw [HNX.out]; exact hun
              obtain ⟨rb, off, ra, rc, hae, hb, gr, sr⟩ := (HA.out _ hbw).nthJ hux
              subst hae
              have hrl : xss[u].length = n := by obtain ⟨_, hl, _⟩ := rowB_of HV.out hux; have := HNX.out; omega
              rw [hrl] at gr sr
              have hjr : j < xss[u].length := by rw [hrl]; exact hjn
              obtain ⟨rb2, ro, rfl, _, gx⟩ := sr.at_ hjr
              have HWT := Lib.hid (wtN_at (s := u) (t := j) hux hjr)
              generalize xss[u][j] = x at gx HWT
              clear sr hrl hjr hb hbw
              by_cases hx : 0 < x
              · have hhas := hR'.out.has j
                generalize hM : decide (j ∈ L') = M at hhas
                have HM := Lib.hid hM
                have HHAS := Lib.hid (l00Has_e hhas wr HO.out.sl)
                clear hhas hM
                go_wp2_with fail
                refine HHAS.out.mono ?_
                rintro e w4 ⟨rfl, rfl⟩
                cases M
                · have hnm : j ∉ L' := by have := HM.out; rwa [decide_eq_false_iff_not] at this
                  have HI2 := Lib.hid (hI'.out.add hs hqL hjn (by rw [HLU.out, HWT.out]; exact hx) hnm)
                  have HR2 := Lib.hid (hR'.out.put hnm)
                  have HDR := Lib.hid (show intsL ((L' ++ [j]).drop (q + 1)) = intsL (L'.drop (q + 1)) ++ [(j : Int)] from by rw [List.drop_append_of_le_length (by omega), intsL_add])
                  clear hnm
                  go_wp2_with fail
                  refine (l00Put_any j _ HO.out.sl (by omega)).mono ?_
                  rintro e w5 ⟨pv, rfl, o5, b5⟩
                  have HB5 := Lib.hid (HBW.out.trans (b5.mono HBW.out.size))
                  have hqq := HQ.out
                  have hzz := HBW.out.size
                  have hll : (intsL (L'.drop (q + 1))).length < 16777216 := by rw [intsL_len, List.length_drop]; omega
                  have B5 := Lib.hid b5
                  obtain ⟨pa, pc, rfl, _, _, _⟩ := id o5.sl
                  clear gx gr x0 x1 x2 c00
                  go_wp2_with (at_builtin; refine append_qu wr _ j _ _ rfl rfl rfl hqq B5.out o5 rfl hll hzz ?_)
                  intro v7 w7 q7 o7 b7
                  have HB7 := Lib.hid ((HB5.out.alloc HB5.out.size (.cells #[.int .i64 j] 2)).trans b7)
                  rw [← HDR.out] at q7
                  have O7 := Lib.hid (o7.lower hzz)
                  clear b7 b5 hqq o7 o5
                  go_wp2
                  go_roundw
                  case rel => exact ⟨j + 1, L' ++ [j], putL j A', by go_num, by omega, by simp; omega, HI2, HR2, Lib.hid (by rw [List.getElem?_append_left hqL]; exact hU'.out), O7.out, q7, HB7.out⟩
                  case measure => simp [intOf]; omega
                · have hm : j ∈ L' := by have := HM.out; rwa [decide_eq_true_eq] at this
                  have HI2 := Lib.hid (hI'.out.skip hqL (.inr hm))
                  clear hm
                  go_wp2
                  go_roundw
                  case rel => exact ⟨j + 1, L', A', by go_num, by omega, hqL, HI2, hR', hU', HO.out, HQ.out, HBW.out⟩
                  case measure => simp [intOf]; omega
              · have HI2 := Lib.hid (hI'.out.skip (j := j) hqL (.inl (by rw [HLU.out, HWT.out]; exact hx)))
                go_wp2
                go_roundw
                case rel => exact ⟨j + 1, L', A', by go_num, by omega, hqL, HI2, hR', hU', HO.out, HQ.out, HBW.out⟩
                case measure => simp [intOf]; omega
            · obtain rfl : j = n := by omega
              have HI2 := Lib.hid hI'.out.next
              have hq1 : q + 1 ≤ L'.length := by omega
              clear hbw
              go_wp2
              go_roundg (j + 1 - (q + 1))
              case rel => exact ⟨q + 1, L', A', ⟨hq1, rfl⟩, HI2, hR', HO.out, HQ.out, HBW.out⟩
              case measure => omega
      · rw [hnil] at hdl
        simp only [List.length_nil] at hdl
        omega
    · obtain rfl : q = L.length := by omega
      have hre := hI.out.rising hR.out.ris hR.out.mem
      rw [List.drop_eq_nil_of_le (Nat.le_refl _)] at hqu
      have htv : ∃ ad c, u6 = .slice (some ad) 0 c := by
        rcases hqu with ⟨g, of, c, pre, h1, _⟩ | ⟨ad, h1, _⟩
        · exact ⟨_, c, h1⟩
        · exact ⟨ad, 0, h1⟩
      obtain ⟨ad, tc, rfl⟩ := htv
      clear hqu
      go_wp2
      go_ret
      exact ⟨_, rfl, by rw [← hre]; exact HO.out, hbw⟩
end Go.Proofs.Ytpmabnohdabbdaa
namespace Go.Proofs.Ytpmabnohdabbdaa
open Go.RowKit Go.Sort
/-- what the reference's loop has found behind i states -/
noncomputable def closI (xss : List (List Int)) (n k i : Nat) : Bool := decide ((reachL xss n k).getD 0 0 = (k : Int)) && ((reachL xss n k).take i).all fun t => rB xss n t.toNat k
theorem closI_full (xss : List (List Int)) (n k : Nat) : closI xss n k (reachL xss n k).length = closedB xss n k := by
  unfold closI closedB; rw [List.take_length]
theorem closI_zero (xss : List (List Int)) (n k : Nat) : closI xss n k 0 = decide ((reachL xss n k).getD 0 0 = (k : Int)) := by
  unfold closI; simp
theorem closI_succ {xss : List (List Int)} {n k i : Nat} (h : i < (reachL xss n k).length) (hc : closI xss n k i = true) : closI xss n k (i + 1) = rB xss n ((reachL xss n k)[i]).toNat k := by
  unfold closI at hc ⊢
  rw [Bool.and_eq_true] at hc
  rw [hc.1, List.take_succ_eq_append_getElem h, List.all_append, hc.2]; simp
theorem closI_false {xss : List (List Int)} {n k i : Nat} (hc : closI xss n k i = false) : closedB xss n k = false := by
  unfold closI at hc
  unfold closedB
  rw [Bool.and_eq_false_iff] at hc ⊢
  rcases hc with h | h
  · exact .inl h
  · refine .inr ?_
    rw [List.all_eq_false] at h ⊢
    obtain ⟨x, hx, hr⟩ := h
    exact ⟨x, List.mem_of_mem_take hx, hr⟩

set_option maxRecDepth 100000 in
set_option maxHeartbeats 8000000 in
theorem l02Closed_any {v : Value} {xss : List (List Int)} {tt : Int} (b o n : Nat) (w : World) (hc : ChainAt w b o n tt v) (ha : SlII w v xss) (hv : chainOk n tt xss = true) :
    Calls Try.prog 182 #[.pointer (some ⟨b, o, none⟩)] w fun e w' => ∃ r, e = .returned r ∧ OwnII w' w.heap.size r (closedN xss n n) ∧ Below w.heap.size w w' := by
  have HA := Lib.hid (fun W (h : Below w.heap.size w W) => ha.below h)
  have HC := Lib.hid (fun W (h : Below w.heap.size w W) => hc.below h)
  obtain ⟨a, ca, us, rfl, _, _, _, _, _⟩ := ha
  obtain ⟨⟨hn1, hn2⟩, ⟨ht1, ht2⟩, hnx, _⟩ := chainOk_parts0 hv
  have hnx' : xss.length = n := by omega
  rw [hnx'] at HA HC
  have HV := Lib.hid hv
  have E0 := Lib.hid (OwnII.empty w (base := w.heap.size) (Nat.le_refl _))
  have B0 := Lib.hid ((Below.refl w.heap.size w).alloc (Nat.le_refl _) (.cells #[] 59))
  clear hv hnx hnx' hc
  go_enter Try.func182, Try.ntmps182
  go_wp2
  go_loopw [3, 4] (fun r i wr => ∃ k : Nat, k ≤ n ∧ i = .int .i64 k ∧ OwnII wr w.heap.size r (closedN xss n k) ∧ Below w.heap.size w wr) (fun _ i _ => n - (intOf i).toNat)
  case atStart => exact ⟨0, Nat.zero_le _, rfl, E0.out, B0.out⟩
  case round =>
    clear E0 B0
    obtain ⟨k, hk, rfl, hown, hbw⟩ := hrel
    have HBW := Lib.hid hbw
    have HO := Lib.hid hown
    obtain ⟨c00, x0, x1, x2⟩ := HC.out _ hbw
    have hcl := closedN_len xss n k
    clear hown
    by_cases hkn : k < n
    · have i1 : (k : Int) < (n : Int) := by omega
      obtain ⟨wo, hwo⟩ : ∃ wo : World, wo = wr := ⟨_, rfl⟩
      subst hwo
      go_wp2_with fail
      refine (l02Reached_any b o n k _ (HC.out _ hbw) (HA.out _ hbw) HV.out hkn).mono ?_
      rintro e w3 ⟨rv, rfl, o3, b3⟩
      have B3 := Lib.hid (hbw.trans (b3.mono hbw.size))
      have BO := Lib.hid b3
      have HRM := Lib.hid (show ∀ x ∈ reachL xss n k, ∃ t : Nat, t < n ∧ x = t from fun x hx => reachL_in hx)
      have hR0 := reachL_pos (xss := xss) hkn
      have hRl : (reachL xss n k).length ≤ n := memsL_len _ _
      have HCZ := Lib.hid (closI_zero xss n k)
      have hcs := fun i (h : i < (reachL xss n k).length) hc => closI_succ (xss := xss) (n := n) (k := k) h hc
      have HCF := Lib.hid (closI_full xss n k)
      have HCS := Lib.hid (closedN_succ xss n k)
      obtain ⟨R, hR⟩ : ∃ R, R = reachL xss n k := ⟨_, rfl⟩
      rw [← hR] at o3 hR0 hRl HCZ HCS HCF HRM
      have HSUC := Lib.hid (show ∀ i (h : i < R.length), closI xss n k i = true → closI xss n k (i + 1) = rB xss n (R[i]).toNat k from by subst hR; exact hcs)
      have O3 := Lib.hid o3
      obtain ⟨ra, rc, rfl, _, hrc, _⟩ := id o3.sl
      unfold maxLen at hrc
      obtain ⟨lb, lo, rfl, _, g0⟩ := o3.sl.at_ hR0
      simp only [Nat.add_zero] at g0
      rw [gD_at hR0] at HCZ
      generalize R[0] = r0 at g0 HCZ
      have i2 : (0 : Int) < (R.length : Int) := by omega
      have tq : (r0 == (k : Int)) = decide (r0 = (k : Int)) := rfl
      have HST := Lib.hid (show (r0 == (k : Int)) = closI xss n k 0 from by rw [HCZ.out]; rfl)
      clear hcs hR b3 o3 x0 x1 x2 c00 hbw tq
      go_wp2
      go_loopg [6, 7] R.length (fun f cv iv wi => ∃ i : Nat, (i ≤ R.length ∧ f = R.length - i) ∧ iv = .int .i64 i ∧ cv = .bool (closI xss n k i) ∧ Below w3.heap.size w3 wi)
      case atStart => exact ⟨0, ⟨Nat.zero_le _, rfl⟩, rfl, by rw [← HST.out], Below.refl _ _⟩
      case round =>
        clear HST HCZ g0
        obtain ⟨i, ⟨hi, rfl⟩, rfl, rfl, hbi⟩ := hrel
        have HBI := Lib.hid hbi
        have HBO2 := Lib.hid (BO.out.trans (hbi.mono BO.out.size))
        have HB3 := Lib.hid (B3.out.trans (hbi.mono B3.out.size))
        generalize hci : closI xss n k i = CI
        have HCI := Lib.hid hci
        clear hci
        cases CI
        · have HCB := Lib.hid (closI_false HCI.out)
          have hs7 : closedN xss n (k + 1) = closedN xss n k := by rw [HCS.out, HCB.out]; simp
          have HO7 := Lib.hid (show OwnII wr w.heap.size u3 (closedN xss n (k + 1)) from by rw [hs7]; exact HO.out.below HBO2.out)
          clear hs7 hbi
          by_cases hlt : i < R.length
          · have i3 : (i : Int) < (R.length : Int) := by omega
            go_wp2
            go_roundw
            case rel => exact ⟨k + 1, by omega, by go_num, HO7.out, HB3.out⟩
            case measure => simp [intOf]; omega
          · have i3 : ¬ (i : Int) < (R.length : Int) := by omega
            go_wp2
            go_roundw
            case rel => exact ⟨k + 1, by omega, by go_num, HO7.out, HB3.out⟩
            case measure => simp [intOf]; omega
        · by_cases hlt : i < R.length
          · have i3 : (i : Int) < (R.length : Int) := by omega
            obtain ⟨lb2, lo2, hae, _, gi⟩ := (O3.out.sl.below hbi).at_ hlt
            simp only [Option.some.injEq, Addr.mk.injEq] at hae
            obtain ⟨rfl, rfl, _⟩ := hae
            obtain ⟨q, hq, hqe⟩ := HRM.out _ (List.getElem_mem hlt)
            have hsu := HSUC.out i hlt HCI.out
            rw [hqe] at gi hsu
            rw [Int.toNat_natCast] at hsu
            have HSU := Lib.hid hsu
            have hhas := reachL_has (xss := xss) (s := q) hkn
            rw [← hsu] at hhas
            have HHAS := Lib.hid hhas
            clear hqe hsu hhas hbi
            go_wp2_with fail
            refine (l02Reached_any b o n q _ (HC.out _ HB3.out) (HA.out _ HB3.out) HV.out hq).mono ?_
            rintro e w5 ⟨qv, rfl, o5, b5⟩
            have HB5 := Lib.hid (HBI.out.trans (b5.mono HBI.out.size))
            have HQ := Lib.hid (l00Has_e HHAS.out w5 o5.sl)
            clear b5 o5 gi
            go_wp2_with fail
            refine HQ.out.mono ?_
            rintro e w6 ⟨rfl, rfl⟩
            go_wp2
            go_roundg (R.length - (i + 1))
            case rel => exact ⟨i + 1, ⟨by omega, rfl⟩, by go_num, rfl, HB5.out⟩
            case measure => omega
          · obtain rfl : i = R.length := by omega
            have HCB := Lib.hid (show closedB xss n k = true from by rw [← HCF.out, HCI.out])
            have hs7 : closedN xss n (k + 1) = closedN xss n k ++ [R] := by rw [HCS.out, HCB.out]; simp
            have HS7 := Lib.hid hs7
            have hln : (closedN xss n k).length < 16777216 := by omega
            have hzr := HBW.out.size
            have ho := HO.out
            have o6 := O3.out.below hbi
            clear hs7 hbi
            go_wp2_with (at_builtin; refine append_row wo _ _ _ rfl rfl rfl ho HBO2.out o6 rfl hln hzr ?_)
            intro v7 w7 o7 b7 z7
            have HB7 := Lib.hid ((HB3.out.alloc HB3.out.size (.cells #[.slice (some ⟨lb, lo, none⟩) R.length rc] 59)).trans b7)
            rw [← HS7.out] at o7
            clear b7 ho o6
            go_wp2
            go_roundw
            case rel => exact ⟨k + 1, by omega, by go_num, o7, HB7.out⟩
            case measure => simp [intOf]; omega
    · obtain rfl : k = n := by omega
      have ho := HO.out
      go_wp2
      go_ret
      exact ⟨_, rfl, ho, hbw⟩
end Go.Proofs.Ytpmabnohdabbdaa
namespace Go.Proofs.Ytpmabnohdabbdaa
open Go.RowKit Go.Sort
def nxtL (E : Nat → Nat → Bool) (n : Nat) (lv : List (List Nat)) (i : Nat) : List (List Nat) := (lv.take i).flatMap fun p => extQ E p n
theorem nxtL_succ {E : Nat → Nat → Bool} {n : Nat} {lv : List (List Nat)} {i : Nat} (h : i < lv.length) : nxtL E n lv (i + 1) = nxtL E n lv i ++ extQ E lv[i] n := by
  unfold nxtL
  rw [List.take_succ_eq_append_getElem h, List.flatMap_append]; simp
theorem nxtL_full (E : Nat → Nat → Bool) (n : Nat) (lv : List (List Nat)) : nxtL E n lv lv.length = expandL E n lv := by
  unfold nxtL expandL; rw [List.take_length]
theorem nxtL_len (E : Nat → Nat → Bool) (n : Nat) (lv : List (List Nat)) (i : Nat) : (nxtL E n lv i).length ≤ lv.length * n := by
  have h := expandL_len (E := E) (n := n) (lv.take i)
  have h2 : (lv.take i).length ≤ lv.length := by rw [List.length_take]; omega
  exact Nat.le_trans h (Nat.mul_le_mul_right n h2)
theorem extQ_yes {E : Nat → Nat → Bool} {p : List Nat} {k : Nat} (h : E (lastP p) k = true) (h2 : k ∉ p) : extQ E p (k + 1) = extQ E p k ++ [p ++ [k]] := by
  rw [extQ_succ, if_pos (by rw [h, decide_eq_false h2]; rfl)]
theorem extQ_no {E : Nat → Nat → Bool} {p : List Nat} {k : Nat} (h : E (lastP p) k = false ∨ k ∈ p) : extQ E p (k + 1) = extQ E p k := by
  rw [extQ_succ, if_neg (by rcases h with h | h
                            · rw [h]; simp
                            · simp [h])]
theorem intsL_has (p : List Nat) (x : Nat) : decide ((x : Int) ∈ intsL p) = decide (x ∈ p) := by
  rw [Bool.eq_iff_iff, decide_eq_true_iff, decide_eq_true_iff]
  unfold intsL
  rw [List.mem_map]
  constructor
  · rintro ⟨t, h1, h2⟩
    have : x = t := by omega
    subst this; exact h1
  · intro h; exact ⟨x, h, rfl⟩
theorem intsL_last {p : List Nat} {k : Nat} (h : p.length = k + 1) (hk : k < (intsL p).length) : (intsL p)[k]'hk = (lastP p : Int) := by
  rw [intsL_get hk]
  have hkp : k < p.length := by omega
  have : p[k] = lastP p := by
    have e : p.length - 1 = k := by omega
    unfold lastP
    rw [List.getLast?_eq_getElem?, e, List.getElem?_eq_getElem hkp]; rfl
  rw [this]
theorem lvl_small (E : Nat → Nat → Bool) {n s k : Nat} (hn : n ≤ 6) (hk : k < 6) : (lvl E n s k).length * n ≤ 46656 := by
  have h1 := lvl_len (E := E) (n := n) s k
  have h2 : n ^ k ≤ 6 ^ k := Nat.pow_le_pow_left hn k
  have h3 : 6 ^ k ≤ 6 ^ 5 := Nat.pow_le_pow_right (by omega) (by omega)
  calc (lvl E n s k).length * n ≤ 6 ^ 5 * 6 := Nat.mul_le_mul (by omega) hn
    _ ≤ 46656 := by decide
theorem OwnII.rowF {w : World} {base : Nat} {ad : Option Addr} {n c : Nat} {xss : List (List Int)} (h : OwnII w base (.slice ad n c) xss) {i : Nat} (hi : i < xss.length) :
    ∃ b off ra rc, ad = some ⟨b, off, none⟩ ∧ b < w.heap.size ∧ w.cell? ⟨b, off + i, none⟩ = some (.slice ra xss[i].length rc) ∧ OwnI w base (.slice ra xss[i].length rc) xss[i] := by
  obtain ⟨b, off, ra, rc, h1, h2, h3, _⟩ := h.sl.nthJ hi
  refine ⟨b, off, ra, rc, h1, h2, h3, ?_⟩
  obtain ⟨vs, h4, h5⟩ := h
  have hv : i < vs.length := by rw [h5.1]; exact hi
  obtain ⟨ad', c', he, _, _, h6⟩ := ownsRow_rd h4
  simp only [Value.slice.injEq] at he
  obtain ⟨rfl, _, _⟩ := he
  obtain ⟨b', off', h7, _, h8⟩ := h6 i _ (List.getElem?_eq_getElem hv)
  rw [h1] at h7
  simp only [Option.some.injEq, Addr.mk.injEq] at h7
  obtain ⟨rfl, rfl, _⟩ := h7
  rw [h3] at h8
  simp only [Option.some.injEq] at h8
  exact h5.2.1 i _ _ (by rw [List.getElem?_eq_getElem hv, ← h8]) (List.getElem?_eq_getElem hi)
theorem OwnII.single (w : World) {base : Nat} (hb : base ≤ w.heap.size) {u : Value} {xs : List Int} (hu : OwnI w base u xs) : OwnII (w.alloc (.cells #[u] 59)) base (.slice (some ⟨w.heap.size, 0, none⟩) 1 1) [xs] := by
  refine ⟨[u], ⟨by simp, .inr ⟨w.heap.size, 1, #[u], rfl, hb, heap_alloc_new w _, by simp, by simp [maxLen], by simp, by simp⟩⟩, rfl, ?_, ?_⟩
  · intro i u' xs' hu' hx'
    cases i with
    | zero =>
      simp at hu' hx'
      subst hu' hx'
      exact hu.below ((Below.refl _ _).alloc (Nat.le_refl _) _)
    | succ i => simp at hu'
  · intro i j u' v' g hij h1 h2 _
    have h3 := (List.getElem?_eq_some_iff.1 h1).1
    have h4 := (List.getElem?_eq_some_iff.1 h2).1
    simp at h3 h4
    omega

set_option maxRecDepth 100000 in
set_option maxHeartbeats 4000000 in
theorem l02Joined_any {v : Value} {xss : List (List Int)} {tt : Int} (b o n : Nat) (w : World) (hc : ChainAt w b o n tt v) (ha : SlII w v xss) (hv : chainOk n tt xss = true) :
    Calls Try.prog 143 #[.pointer (some ⟨b, o, none⟩)] w fun e w' => e = .returned (.bool (connB xss n)) ∧ Below w.heap.size w w' := by
  have HC := Lib.hid (fun W (h : Below w.heap.size w W) => hc.below h)
  obtain ⟨⟨hn1, hn2⟩, ⟨ht1, ht2⟩, hnx, _⟩ := chainOk_parts0 hv
  have hcl := closedN_len xss n n
  obtain ⟨C, hC⟩ : ∃ C, C = closedN xss n n := ⟨_, rfl⟩
  have HCB := Lib.hid (show connB xss n = (decide (C.length = 1) && decide ((C.getD 0 []).length = n)) from by rw [hC]; rfl)
  have HCE := Lib.hid hC
  have KC := Lib.hid (l02Closed_any b o n w hc ha hv)
  rw [← hC] at hcl
  clear hv hnx hC hc
  go_enter Try.func143, Try.ntmps143
  go_wp2_with fail
  refine KC.out.mono ?_
  rintro e w1 ⟨r, rfl, o1, b1⟩
  rw [← HCE.out] at o1
  have B1 := Lib.hid b1
  have S1 := Lib.hid o1.sl
  obtain ⟨y00, y0, y1, y2⟩ := HC.out _ b1
  obtain ⟨ra, rc, rs, rfl, _, _, _, _, _⟩ := id S1.out
  have k0 := fun d os => cell_regrown y0 d os
  clear y1 y2 o1 b1 KC
  by_cases h1 : C.length = 1
  · have h0 : 0 < C.length := by omega
    obtain ⟨b', off, ea, ec, rfl, hb, g0, s0⟩ := S1.out.nthJ h0
    simp only [Nat.add_zero] at g0
    have hgd := gD_at (d := ([] : List Int)) h0
    have HCB2 := Lib.hid (show connB xss n = decide (C[0].length = n) from by rw [HCB.out, hgd, h1]; simp)
    generalize C[0] = E at g0 s0 HCB2
    have k1 := fun d os => cell_regrown g0 d os
    have t1 : ((C.length : Int) == 1) = true := by rw [h1]; rfl
    have i0 : (0 : Int) < (C.length : Int) := by omega
    have t2 : ((E.length : Int) == (n : Int)) = decide (E.length = n) := by
      by_cases h : E.length = n
      · simp [h]
      · have : ¬ ((E.length : Int) = (n : Int)) := by omega
        rw [decide_eq_false h, beq_eq_false_iff_ne]; exact this
    obtain ⟨_, _, he, _, hel, _⟩ := s0
    unfold maxLen at hel
    simp only [Value.slice.injEq] at he
    obtain ⟨rfl, _, rfl⟩ := he
    generalize decide (E.length = n) = D at t2 HCB2
    clear hgd h1
    go_wp2_with fail
    refine wp_region_quiet_below (by kernel_rfl) (by kernel_rfl) ?_
    repeat (first | go_big_quiet_skip | quiet_step (fail))
    refine wpQuiet_nil ?_
    intro _ hw'
    obtain ⟨⟨dq, osq⟩, hw''⟩ := hw'
    subst hw''
    have bq := B1.out.trans ((below_regrown w1 dq osq).mono B1.out.size)
    generalize grow (redrawn w1 dq) osq = wq at bq ⊢
    clear k0 k1
    go_wp2
    go_ret
    exact ⟨rb HCB2.out.symm, bq⟩
  · have t1 : ((C.length : Int) == 1) = false := by rw [beq_eq_false_iff_ne]; omega
    have HCB2 := Lib.hid (show connB xss n = false from by rw [HCB.out]; simp [h1])
    clear h1
    go_wp2_with fail
    refine wp_region_quiet_below (by kernel_rfl) (by kernel_rfl) ?_
    repeat (first | go_big_quiet_skip | quiet_step (fail))
    refine wpQuiet_nil ?_
    intro _ hw'
    obtain ⟨⟨dq, osq⟩, hw''⟩ := hw'
    subst hw''
    have bq := B1.out.trans ((below_regrown w1 dq osq).mono B1.out.size)
    generalize grow (redrawn w1 dq) osq = wq at bq ⊢
    clear k0
    go_wp2
    go_ret
    exact ⟨rbf HCB2.out, bq⟩

set_option maxHeartbeats 1000000 in
theorem l02Whose_any {v : Value} {xss : List (List Int)} (b o : Nat) (n t : Int) (w : World) (hc : ChainAt w b o n t v) (ha : SlII w v xss) :
    Calls Try.prog 69 #[.pointer (some ⟨b, o, none⟩)] w fun e w' => e = .returned (.int .i64 (conC n t xss)) ∧ Below w.heap.size w w' := by
  have HA := Lib.hid (fun W (h : Below w.heap.size w W) => ha.below h)
  have HC := Lib.hid (fun W (h : Below w.heap.size w W) => hc.below h)
  have hcc : conC n t xss = if chainOk n t xss = true then (if connB xss n.toNat = true then 0 else 4) else 1 := rfl
  generalize hok : chainOk n t xss = OK at hcc
  have HOK := Lib.hid hok
  have HCC := Lib.hid hcc
  clear hok hcc hc
  go_enter Try.func69, Try.ntmps69
  go_wp2_with fail
  refine (l01Ok_any b o n t w (HC.out _ (Below.refl _ _)) (HA.out _ (Below.refl _ _))).mono ?_
  rintro e w1 ⟨rfl, b1⟩
  rw [HOK.out]
  have B1 := Lib.hid b1
  clear b1
  cases OK
  · go_wp2
    go_ret
    exact ⟨ri (by rw [HCC.out]; simp), B1.out⟩
  · obtain ⟨m, rfl, _, _⟩ := chain_nat HOK.out
    have hmm : connB xss (m : Int).toNat = connB xss m := by rw [Int.toNat_natCast]
    have HCC2 := Lib.hid (show conC (m : Int) t xss = if connB xss m = true then 0 else 4 from by rw [HCC.out, hmm]; simp)
    generalize hcb : connB xss m = CB at HCC2
    have HCB := Lib.hid hcb
    clear hcb hmm
    go_wp2_with fail
    refine (l02Joined_any b o m _ (HC.out _ B1.out) (HA.out _ B1.out) HOK.out).mono ?_
    rintro e w2 ⟨rfl, b2⟩
    rw [HCB.out]
    have B2 := Lib.hid (B1.out.trans (b2.mono B1.out.size))
    clear b2
    cases CB
    · go_wp2
      go_ret
      exact ⟨ri (by rw [HCC2.out]; simp), B2.out⟩
    · go_wp2
      go_ret
      exact ⟨ri (by rw [HCC2.out]; simp), B2.out⟩

set_option maxRecDepth 100000 in
set_option maxHeartbeats 8000000 in
theorem l06First_any {v : Value} {xss : List (List Int)} {tt : Int} (b o n s t : Nat) (w : World) (hc : ChainAt w b o n tt v) (ha : SlII w v xss) (hv : chainOk n tt xss = true) (hcn : connB xss n = true) (hs : s < n) (ht : t < n) :
    Calls Try.prog 144 #[.pointer (some ⟨b, o, none⟩), .int .i64 s, .int .i64 t] w fun e w' => ∃ r, e = .returned r ∧ OwnI w' w.heap.size r (intsL (firstG (edgeP xss) n s t)) ∧ Below w.heap.size w w' := by
  have HA := Lib.hid (fun W (h : Below w.heap.size w W) => ha.below h)
  have HC := Lib.hid (fun W (h : Below w.heap.size w W) => hc.below h)
  obtain ⟨a, ca, us, rfl, _, _, _, _, _⟩ := ha
  obtain ⟨⟨hn1, hn2⟩, ⟨ht1, ht2⟩, hnx, _⟩ := chainOk_parts0 hv
  have hnx' : xss.length = n := by omega
  have HNX := Lib.hid hnx'
  rw [hnx'] at HA HC
  have HV := Lib.hid hv
  have hisf := far_exists ht (conn_back hcn ht)
  have hfs := f_lt hisf hs
  have HFOUND := Lib.hid (fun k i hk hi he hno => lvl_found (k := k) (i := i) hisf hs hk hi he hno)
  have HMORE := Lib.hid (fun k hk hno => lvl_more (k := k) hisf hs hk hno)
  have HALL := Lib.hid (fun k => lvl_all hisf hs k)
  obtain ⟨D, hD⟩ : ∃ D, D = farC (edgeP xss) n t s := ⟨_, rfl⟩
  rw [← hD] at hfs HFOUND HMORE
  have l1 := OwnI.lit1 w (base := w.heap.size) (Nat.le_refl _) s
  have hz1 : (w.alloc (.cells #[.int .i64 s] 2)).heap.size = w.heap.size + 1 := by simp
  have bA : Below w.heap.size w (w.alloc (.cells #[.int .i64 s] 2)) := (Below.refl _ _).alloc (Nat.le_refl _) _
  have L1 := Lib.hid (OwnII.single (w.alloc (.cells #[.int .i64 s] 2)) (base := w.heap.size) (by omega) l1)
  have B1 := Lib.hid (bA.alloc bA.size (.cells #[.slice (some ⟨w.heap.size, 0, none⟩) 1 1] 59))
  clear hv hnx hnx' hc hcn hisf hD l1 bA
  go_enter Try.func144, Try.ntmps144
  go_wp2
  go_loopg [7] (D + 1) (fun fm lv wr => ∃ k : Nat, (k ≤ D ∧ fm = D + 1 - k) ∧ OwnII wr w.heap.size lv ((lvl (edgeP xss) n s k).map intsL) ∧ Below w.heap.size w wr)
  case atStart => exact ⟨0, ⟨Nat.zero_le _, rfl⟩, by have h := L1.out; rw [hz1] at h; exact h, B1.out⟩
  case round =>
    clear L1 B1
    obtain ⟨k, ⟨hk, rfl⟩, hown, hbw⟩ := hrel
    have HF := Lib.hid (show ∀ (i : Nat) (hi : i < (lvl (edgeP xss) n s k).length), lastP ((lvl (edgeP xss) n s k)[i]) = t → (∀ x, (h : x < (lvl (edgeP xss) n s k).length) → x < i → lastP ((lvl (edgeP xss) n s k)[x]) ≠ t) → (lvl (edgeP xss) n s k)[i] = firstG (edgeP xss) n s t from fun i hi he hno => HFOUND.out k i hk hi he (fun x hx => hno x (by omega) hx))
    have HM := Lib.hid (HMORE.out k hk)
    have HP := Lib.hid (HALL.out k)
    have hsm := lvl_small (edgeP xss) (s := s) (show n ≤ 6 by omega) (show k < 6 by omega)
    have HNF := Lib.hid (nxtL_full (edgeP xss) n (lvl (edgeP xss) n s k))
    have HLV := Lib.hid (show lvl (edgeP xss) n s (k + 1) = expandL (edgeP xss) n (lvl (edgeP xss) n s k) from rfl)
    have hnl := fun i => nxtL_len (edgeP xss) n (lvl (edgeP xss) n s k) i
    generalize lvl (edgeP xss) n s k = LV at hown HF HM HP hsm HNF HLV hnl
    have HNL := Lib.hid hnl
    have hlv : LV.length ≤ 46656 := Nat.le_trans (Nat.le_mul_of_pos_right _ (by omega)) hsm
    have HBW := Lib.hid hbw
    obtain ⟨wo, hwo⟩ : ∃ wo : World, wo = wr := ⟨_, rfl⟩
    subst hwo
    have hml : (LV.map intsL).length = LV.length := by simp
    have HML := Lib.hid hml
    have HL := Lib.hid (fun W (h : Below wo.heap.size wo W) => hown.below h)
    obtain ⟨la, ln, lc, rfl, hln⟩ := hown.form
    have hln' := hln.out
    rw [hml] at hln'
    subst hln'
    have E0 := Lib.hid (OwnII.empty wo (base := wo.heap.size) (Nat.le_refl _))
    have BE := Lib.hid ((Below.refl wo.heap.size wo).alloc (Nat.le_refl _) (.cells #[] 59))
    clear hnl hml hown hbw hln
    go_wp2
    go_loopw [8, 9] (fun nv iv wi => ∃ i : Nat, i ≤ LV.length ∧ iv = .int .i64 i ∧ OwnII wi wo.heap.size nv ((nxtL (edgeP xss) n LV i).map intsL) ∧ Hid (∀ x, (h : x < LV.length) → x < i → lastP LV[x] ≠ t) ∧ Below wo.heap.size wo wi) (fun _ iv _ => LV.length - (intOf iv).toNat)
    case atStart => exact ⟨0, Nat.zero_le _, rfl, by simpa [nxtL] using E0.out, Lib.hid (fun x _ hx => absurd hx (by omega)), BE.out⟩
    case round =>
      clear E0 BE
      obtain ⟨i, hi, rfl, hown, hno, hbi⟩ := hrel
      have HBI := Lib.hid hbi
      have HO := Lib.hid hown
      have HBW2 := Lib.hid (HBW.out.trans (hbi.mono HBW.out.size))
      clear hown
      by_cases hlt : i < LV.length
      · have hil : i < (LV.map intsL).length := by rw [HML.out]; exact hlt
        obtain ⟨lb, lo, ra, rc, rfl, hlb, gr0, orow0⟩ := (HL.out wo (Below.refl _ _)).rowF hil
        rw [List.getElem_map] at gr0 orow0
        obtain ⟨hp1, hp2, hp3, _⟩ := HP.out _ (List.getElem_mem hlt)
        have HFI := Lib.hid (fun he hno' => HF.out i hlt he hno')
        have HNX2 := Lib.hid (nxtL_succ (E := edgeP xss) (n := n) hlt)
        have HLI := Lib.hid (show ∀ p, LV[i] = p → LV[i]'hlt = p from fun _ h => h)
        obtain ⟨p, hp⟩ : ∃ p, p = LV[i] := ⟨_, rfl⟩
        rw [← hp] at gr0 orow0 hp1 hp2 hp3 HFI HNX2
        have HPE := Lib.hid hp
        have hpl := intsL_len p
        have hkp : k < (intsL p).length := by rw [hpl]; omega
        obtain ⟨rb, ro, rfl, _, gl⟩ := (orow0.below hbi).sl.at_ hkp
        rw [intsL_last hp1] at gl
        obtain ⟨m, hm⟩ : ∃ m, m = k + 1 := ⟨_, rfl⟩
        rw [hpl, hp1, ← hm] at gr0 orow0
        have HG2 := Lib.hid (fun W (h : Below wo.heap.size wo W) => h.cell (p := ⟨lb, lo + i, none⟩) hlb ▸ gr0)
        have OR := Lib.hid (fun W (h : Below wo.heap.size wo W) => orow0.below h)
        have gr := HG2.out _ hbi
        have HLT := Lib.hid hlt
        have i1 : (i : Int) < (LV.length : Int) := by omega
        have i0 : (0 : Int) ≤ (i : Int) := by omega
        have r1 : IntKind.i64.wrap ((m : Int) - 1) = (k : Int) := by rw [IntWalk.i64_in _ (by omega)]; omega
        have i2 : (0 : Int) ≤ (k : Int) := by omega
        have i3 : (k : Int) < (m : Int) := by omega
        have HMK := Lib.hid hm
        have k0 := fun d os => cell_regrown gr d os
        have k1 := fun d os => cell_regrown gl d os
        clear hp hpl hkp orow0 gr0 hil hm
        go_wp2_with fail
        refine wp_region_quiet_below (by kernel_rfl) (by kernel_rfl) ?_
        repeat (first | go_big_quiet_skip | quiet_step (fail))
        refine wpQuiet_nil ?_
        intro _ hw'
        obtain ⟨⟨dq, osq⟩, hw''⟩ := hw'
        subst hw''
        have bq := below_regrown wr dq osq
        generalize grow (redrawn wr dq) osq = wq at bq ⊢
        have HBQ := Lib.hid (HBI.out.trans (bq.mono HBI.out.size))
        have HOQ := Lib.hid (HO.out.below bq)
        have hgq := HG2.out _ HBQ.out
        have HBWQ := Lib.hid (HBW2.out.trans (bq.mono HBW2.out.size))
        have hun : lastP p < n := hp3
        clear k0 k1 gr gl bq HBI HO HBW2 r1
        by_cases hut : lastP p = t
        · have HRES := Lib.hid (show p = firstG (edgeP xss) n s t from by
            rw [HPE.out]
            exact HF.out i hlt (by rw [← HPE.out]; exact hut) hno.out)
          have t1 : ((lastP p : Int) == (t : Int)) = true := by rw [hut]; simp
          clear hut
          go_wp2
          go_ret
          exact ⟨_, rfl, by rw [← HRES.out]; exact OR.out _ HBQ.out, HBWQ.out⟩
        · have HUT := Lib.hid hut
          have t1 : ((lastP p : Int) == (t : Int)) = false := by simp only [beq_eq_false_iff_ne, ne_eq]; omega
          have HXE := Lib.hid (fun (j : Nat) (h1 : edgeP xss (lastP p) j = true) (h2 : j ∉ p) => extQ_yes (p := p) h1 h2)
          have HXN := Lib.hid (fun (j : Nat) (h1 : edgeP xss (lastP p) j = false ∨ j ∈ p) => extQ_no (E := edgeP xss) (p := p) h1)
          have HNO := Lib.hid (show ∀ x, (h : x < LV.length) → x < i + 1 → lastP LV[x] ≠ t from fun x hx hxi => by
            by_cases e : x = i
            · subst e; rw [← HPE.out]; exact HUT.out
            · exact hno.out x hx (by omega))
          have hel := fun j => extQ_len (E := edgeP xss) p j
          have hnn := HNL.out i
          generalize lastP p = U at hun t1 HXE HXN
          have O0 := Lib.hid (show OwnII wq wo.heap.size u8 ((nxtL (edgeP xss) n LV i ++ extQ (edgeP xss) p 0).map intsL) from by
            show OwnII _ _ _ ((nxtL (edgeP xss) n LV i ++ []).map intsL)
            rw [List.append_nil]; exact HOQ.out)
          have i5 : (0 : Int) ≤ (U : Int) := by omega
          have i6 : (U : Int) < (n : Int) := by omega
          clear hut hgq
          go_wp2
          go_loopw [8, 11] (fun nv xv wj => ∃ j : Nat, j ≤ n ∧ xv = .int .i64 j ∧ OwnII wj wo.heap.size nv ((nxtL (edgeP xss) n LV i ++ extQ (edgeP xss) p j).map intsL) ∧ Below wo.heap.size wo wj) (fun _ xv _ => n - (intOf xv).toNat)
          case atStart => exact ⟨0, Nat.zero_le _, rfl, O0.out, HBQ.out⟩
          case round =>
            clear O0 HBQ HOQ HBWQ
            obtain ⟨j, hj, rfl, hown, hbj⟩ := hrel
            have HBJ := Lib.hid hbj
            have HO := Lib.hid hown
            have HBW3 := Lib.hid (HBW.out.trans (hbj.mono HBW.out.size))
            have hgq := HG2.out _ hbj
            obtain ⟨c00, x0, x1, x2⟩ := HC.out _ HBW3.out
            clear hown
            by_cases hjn : j < n
            · have i4 : (j : Int) < (n : Int) := by omega
              have i7 : (0 : Int) ≤ (j : Int) := by omega
              have hux : U < xss.length := by rw [HNX.out]; exact hun
              obtain ⟨cb, off, ra2, rc2, hae, hb, gr, sr⟩ := (HA.out _ HBW3.out).nthJ hux
              subst hae
              have hrl : xss[U].length = n := by obtain ⟨_, hl, _⟩ := rowB_of HV.out hux; have := HNX.out; omega
              rw [hrl] at gr sr
              have hjr : j < xss[U].length := by rw [hrl]; exact hjn
              obtain ⟨rb2, ro2, rfl, _, gx⟩ := sr.at_ hjr
              have hE := edgeP_at hux hjr
              generalize xss[U][j] = x at gx hE
              have HE := Lib.hid hE
              clear sr hrl hjr hb hbj hE
              by_cases hx : 0 < x
              · have ORJ := Lib.hid (OR.out _ HBJ.out)
                have hhas := intsL_has p j
                generalize hM : decide (j ∈ p) = M at hhas
                have HM2 := Lib.hid hM
                have HHAS := Lib.hid (l00Has_e hhas wr ORJ.out.sl)
                clear hhas hM
                go_wp2_with fail
                refine HHAS.out.mono ?_
                rintro e w4 ⟨rfl, rfl⟩
                cases M
                · have hnm : j ∉ p := by have := HM2.out; rwa [decide_eq_false_iff_not] at this
                  have HX := Lib.hid (HXE.out j (by rw [HE.out]; exact decide_eq_true hx) hnm)
                  have hpl : (intsL p).length = k + 1 := by rw [intsL_len]; exact hp1
                  clear hnm
                  go_wp2_with fail
                  refine (l00Own_any wr ORJ.out.sl (by omega)).mono ?_
                  rintro e w5 ⟨pv, rfl, o5, b5⟩
                  have B5 := Lib.hid b5
                  have HB5 := Lib.hid (HBJ.out.trans (b5.mono HBJ.out.size))
                  have hz5 := b5.size
                  have hlp : (intsL p).length < 16777216 := by omega
                  clear b5 hpl
                  go_wp2_with (at_builtin; refine append_i64 _ (j : Int) _ _ rfl rfl rfl o5 rfl hlp hz5 ?_)
                  intro v6 w6 o6 b6 z6
                  have B6 := Lib.hid ((B5.out.alloc hz5 (.cells #[.int .i64 j] 2)).trans b6)
                  rw [← intsL_add] at o6
                  obtain ⟨qa, qc, rfl, _, _, _⟩ := id o6.sl
                  have ho := HO.out
                  have hzz := HBJ.out.size
                  have hll : ((nxtL (edgeP xss) n LV i ++ extQ (edgeP xss) p j).map intsL).length < 16777216 := by
                    have h1 := hel j
                    rw [List.length_map, List.length_append]
                    omega
                  clear b6 o5
                  go_wp2_with (at_builtin; refine append_row wr _ _ _ rfl rfl rfl ho B6.out o6 rfl hll hzz ?_)
                  intro v7 w7 o7 b7 z7
                  have HB7 := Lib.hid (((HBJ.out.trans (B6.out.mono HBJ.out.size)).alloc (Nat.le_trans HBJ.out.size B6.out.size) (.cells #[.slice qa (intsL (p ++ [j])).length qc] 59)).trans b7)
                  have HO7 := Lib.hid (show OwnII w7 wo.heap.size v7 ((nxtL (edgeP xss) n LV i ++ extQ (edgeP xss) p (j + 1)).map intsL) from by
                    rw [HX.out]; simpa [List.map_append, List.append_assoc] using o7)
                  clear b7 o7 ho o6
                  go_wp2
                  go_roundw
                  case rel => exact ⟨j + 1, by omega, by go_num, HO7.out, HB7.out⟩
                  case measure => simp [intOf]; omega
                · have hm : j ∈ p := by have := HM2.out; rwa [decide_eq_true_eq] at this
                  have HO2 := Lib.hid (show OwnII wr wo.heap.size u8 ((nxtL (edgeP xss) n LV i ++ extQ (edgeP xss) p (j + 1)).map intsL) from by rw [HXN.out j (.inr hm)]; exact HO.out)
                  clear hm
                  go_wp2
                  go_roundw
                  case rel => exact ⟨j + 1, by omega, by go_num, HO2.out, HBJ.out⟩
                  case measure => simp [intOf]; omega
              · have HO2 := Lib.hid (show OwnII wr wo.heap.size u8 ((nxtL (edgeP xss) n LV i ++ extQ (edgeP xss) p (j + 1)).map intsL) from by rw [HXN.out j (.inl (by rw [HE.out]; exact decide_eq_false hx))]; exact HO.out)
                go_wp2
                go_roundw
                case rel => exact ⟨j + 1, by omega, by go_num, HO2.out, HBJ.out⟩
                case measure => simp [intOf]; omega
            · obtain rfl : j = n := by omega
              have HO2 := Lib.hid (show OwnII wr wo.heap.size u8 ((nxtL (edgeP xss) j LV (i + 1)).map intsL) from by rw [HNX2.out]; exact HO.out)
              clear hbj
              go_wp2
              go_roundw
              case rel => exact ⟨i + 1, by have := HLT.out; omega, by go_num, HO2.out, HNO, HBJ.out⟩
              case measure => have := HLT.out; simp [intOf]; omega
      · obtain rfl : i = LV.length := by omega
        have hk1 := HM.out (fun x hx => hno.out x hx hx)
        have HO2 := Lib.hid (show OwnII wr w.heap.size u8 ((lvl (edgeP xss) n s (k + 1)).map intsL) from by rw [HLV.out, ← HNF.out]; exact HO.out.lower HBW.out.size)
        go_wp2
        go_roundg (D + 1 - (k + 1))
        case rel => exact ⟨k + 1, ⟨hk1, rfl⟩, HO2.out, HBW2.out⟩
        case measure => omega
end Go.Proofs.Ytpmabnohdabbdaa
