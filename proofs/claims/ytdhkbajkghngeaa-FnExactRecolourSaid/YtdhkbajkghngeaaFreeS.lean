/-
  Free colours, the reference's; FreeColours, both sides.
-/
import Derived.Test.YtdhkbajkghngeaaFree
namespace Go.Proofs.Ytdhkbajkghngeaa
open Go.RowKit Go.Sort
theorem freeS_succ (es : List (List Int)) (cs : List Int) (node c : Int) (k : Nat) : freeS es cs node c (k + 1) = (freeS es cs node c k && ((!decide (cs.getD k 0 = c)) || !nearB es node (k : Int))) := by
  unfold freeS; rw [List.range_succ, List.all_append]; simp
set_option maxRecDepth 100000 in
set_option maxHeartbeats 4000000 in
theorem l08Free_any {v u : Value} {es : List (List Int)} {cs : List Int} (b o m : Nat) (node : Int) (q : Nat) (w : World) (hc : GraphAt w b o m v) (ha : SlII w v es) (hu : SlI w u cs) (hE : EdgesB m es) (hm : cs.length = m) (hm5 : m ≤ 100) (hq : q ≤ 100) :
    Calls Try.prog 85 #[.pointer (some ⟨b, o, none⟩), .int .i64 q, u, .int .i64 node] w fun e w' => ∃ r, e = .returned r ∧ OwnI w' w.heap.size r (freeL es cs node q) ∧ Below w.heap.size w w' := by
  have HA := Lib.hid (fun W (h : Below w.heap.size w W) => ha.below h)
  have HC := Lib.hid (fun W (h : Below w.heap.size w W) => hc.below h)
  have HV := Lib.hid (fun W (h : Below w.heap.size w W) => hu.below h)
  have HE := Lib.hid hE
  have HM := Lib.hid hm
  obtain ⟨va, vc, rfl, _, hvc, _⟩ := hu
  unfold maxLen at hvc
  have own0 := OwnI.empty w (base := w.heap.size) (Nat.le_refl _)
  have b0 : Below w.heap.size w (w.alloc (.cells #[] 2)) := (Below.refl _ _).alloc (Nat.le_refl _) _
  clear ha hc hE hm
  go_enter Try.func85, Try.ntmps85
  go_wp2
  go_loopw [9, 10, 11, 12] (fun v i _ _ wr => ∃ k : Nat, k ≤ q ∧ i = .int .i64 k ∧ OwnI wr w.heap.size v (freeL es cs node k) ∧ Below w.heap.size w wr) (fun _ i _ _ _ => q - (intOf i).toNat)
  case atStart => exact ⟨0, Nat.zero_le _, rfl, own0, b0⟩
  case round =>
    clear own0 b0
    obtain ⟨k, hk, rfl, hown, hbr⟩ := hrel
    by_cases hlt : k < q
    · obtain ⟨wo, rfl⟩ : ∃ wo : World, wo = wr := ⟨_, rfl⟩
      have HOWN := Lib.hid hown
      clear hown
      go_wp2
      go_loopw [11, 12] (fun f i wr => ∃ j : Nat, j ≤ m ∧ i = .int .i64 j ∧ f = .bool (freeS es cs node k j) ∧ Below wo.heap.size wo wr) (fun _ i _ => m - (intOf i).toNat)
      case atStart => exact ⟨0, Nat.zero_le _, rfl, rfl, Below.refl _ _⟩
      case round =>
        obtain ⟨j, hj, rfl, rfl, hbo⟩ := hrel
        have hbw := hbr.trans (hbo.mono hbr.size)
        obtain ⟨_, c0, c1⟩ := HC.out _ hbw
        by_cases hjt : j < m
        · have hjs : j < cs.length := by rw [HM.out]; exact hjt
          have hfs := freeS_succ es cs node k j
          rw [getD_at hjs] at hfs
          obtain ⟨_, _, he', _, _, vr⟩ := HV.out _ hbw
          simp only [Value.slice.injEq] at he'
          obtain ⟨rfl, _, rfl⟩ := he'
          obtain ⟨cb, co, rfl, gj⟩ := vr.one (i64s_get hjs)
          generalize freeS es cs node k j = f at hfs
          obtain ⟨d, hd⟩ : ∃ d, d = decide (cs[j] = (k : Int)) := ⟨_, rfl⟩
          have t1 : (cs[j] != (k : Int)) = !d := by rw [hd]; rfl
          rw [← hd] at hfs
          generalize hn : nearB es node (j : Int) = N at hfs
          have HN := Lib.hid hn
          have HFS := Lib.hid hfs
          have i1 : (j : Int) < (cs.length : Int) := by omega
          clear hfs hn hd
          cases f
          · go_wp2
            go_roundw
            case rel => exact ⟨j + 1, by omega, by go_num, by rw [HFS.out]; rfl, hbo⟩
            case measure => simp [intOf]; omega
          · cases d
            · go_wp2
              go_roundw
              case rel => exact ⟨j + 1, by omega, by go_num, by rw [HFS.out]; rfl, hbo⟩
              case measure => simp [intOf]; omega
            · go_wp2_with fail
              refine (l08Near_any b o m m node j _ (HC.out _ hbw) (HA.out _ hbw) HE.out).mono ?_
              rintro e w2 ⟨rfl, b2⟩
              rw [HN.out]
              have hb2 := hbo.trans (b2.mono hbo.size)
              clear b2 c0 c1
              go_wp2
              go_roundw
              case rel => exact ⟨j + 1, by omega, by go_num, by rw [HFS.out]; simp, hb2⟩
              case measure => simp [intOf]; omega
        · obtain rfl : j = m := by omega
          have hlaw := free_law (cs := cs) (node := node) (c := (k : Int)) HE.out
          have hfl := freeL_length es cs node k
          have hown := HOWN.out.below hbo
          have hsz := hbw.size
          generalize freeS es cs node k j = f at hlaw
          generalize ht : takenB es cs node k = T at hlaw
          have HT := Lib.hid ht
          clear ht
          cases T
          · obtain rfl : f = true := hlaw
            go_wp2_with (at_builtin; refine append_i64 _ _ _ _ rfl rfl rfl hown rfl (by omega) hsz ?_)
            intro v' w3 hown3 hb3 hsz3
            rw [← freeL_yes HT.out] at hown3
            have hb4 := (hbw.alloc hsz _).trans hb3
            clear hown hb3
            go_wp2
            go_roundw
            case rel => exact ⟨k + 1, by omega, by go_num, hown3, hb4⟩
            case measure => simp [intOf]; omega
          · obtain rfl : f = false := hlaw
            go_wp2
            go_roundw
            case rel => exact ⟨k + 1, by omega, by go_num, by rw [freeL_no HT.out]; exact hown, hbw⟩
            case measure => simp [intOf]; omega
    · obtain rfl : k = q := by omega
      go_wp2
      go_ret
      exact ⟨_, rfl, hown, hbr⟩
def freeR (n : Int) (es : List (List Int)) (q : Int) (cs : List Int) (node : Int) : List Int × Int :=
  let code := askedC n es q (colsOk n 0 (IntKind.i64.wrap (q - 1)) cs && inR node 0 (IntKind.i64.wrap (n - 1)))
  if code = 0 then (freeL es cs node q.toNat, 0) else ([], code)
theorem freeR_len (n : Int) (es : List (List Int)) (q : Int) (cs : List Int) (node : Int) : (freeR n es q cs node).1.length ≤ 4 := by
  unfold freeR
  dsimp only
  split
  · rename_i h
    obtain ⟨_, h1, h2, _⟩ := askedC_ok h
    have := freeL_length es cs node q.toNat
    dsimp only; omega
  · simp
def nodeC (n : Int) (es : List (List Int)) (q : Int) (cs : List Int) (node : Int) : Int := askedC n es q (colsOk n 0 (IntKind.i64.wrap (q - 1)) cs && inR node 0 (IntKind.i64.wrap (n - 1)))
theorem nodeC_ok {n q node : Int} {es : List (List Int)} {cs : List Int} (h : nodeC n es q cs node = 0) : ∃ m k : Nat, n = (m : Int) ∧ q = (k : Int) ∧ 1 ≤ m ∧ m ≤ 5 ∧ 1 ≤ k ∧ k ≤ 4 ∧ EdgesB m es ∧ es.length ≤ 25 ∧ cs.length = m ∧ 0 ≤ node ∧ node < m ∧ (∀ c ∈ cs, 0 ≤ c ∧ c < k) ∧ colsOk (m : Int) 0 ((k : Int) - 1) cs = true ∧ inR node 0 ((m : Int) - 1) = true ∧ askedC m es k true = 0 := by
  obtain ⟨hg, h1, h2, h3⟩ := askedC_ok h
  rw [Bool.and_eq_true] at h3
  obtain ⟨m, rfl, hm1, hm5, hE, hl⟩ := graphOk_all hg
  obtain ⟨k, rfl⟩ := Int.eq_ofNat_of_zero_le (show 0 ≤ q by omega)
  have hc := colsOk_len h3.1
  have hn := inR_iff.1 h3.2
  rw [IntWalk.i64_in _ (by omega)] at hn hc
  have h31 := h3.1
  have h32 := h3.2
  rw [IntWalk.i64_in _ (by omega)] at h31 h32
  exact ⟨m, k, rfl, rfl, hm1, hm5, by omega, by omega, hE, hl, by omega, hn.1, by omega, fun c hx => by have := hc.2 c hx; omega, h31, h32, by unfold askedC; rw [hg, inR_iff.2 ⟨h1, h2⟩]; rfl⟩
theorem nodeC_code {n q node : Int} {es : List (List Int)} {cs : List Int} (h : codeC n es q [cs] ≠ 0) : nodeC n es q cs node = codeC n es q [cs] := by
  rw [codeC_one] at h ⊢
  unfold nodeC askedC at *
  split
  · rfl
  · rename_i h1
    rw [if_neg h1] at h
    split
    · rfl
    · rename_i h2
      rw [if_neg h2] at h
      split at h
      · rename_i h3; rw [h3]; simp
      · simp at h
theorem nodeC_node {n q node : Int} {es : List (List Int)} {cs : List Int} (h : codeC n es q [cs] = 0) : nodeC n es q cs node = if inR node 0 (IntKind.i64.wrap (n - 1)) = true then 0 else 2 := by
  rw [codeC_one] at h
  obtain ⟨hg, h1, h2, h3⟩ := askedC_ok h
  unfold nodeC askedC
  rw [hg, h3, inR_iff.2 ⟨h1, h2⟩]
  cases inR node 0 (IntKind.i64.wrap (n - 1)) <;> rfl
set_option maxHeartbeats 2000000 in
theorem nodeCode_any {v u : Value} {es : List (List Int)} {cs : List Int} (n q node : Int) (w : World) (ha : SlII w v es) (hu : SlI w u cs) :
    Calls Try.prog 87 #[.agg #[.int .i64 n, v], .int .i64 q, u, .int .i64 node] w fun e w' => e = .returned (.int .i64 (nodeC n es q cs node)) ∧ Below w.heap.size w w' := by
  have HA := Lib.hid (fun W (h : Below w.heap.size w W) => ha.below h)
  obtain ⟨a, ca, us, rfl, _⟩ := ha
  obtain ⟨va, vc, rfl, _⟩ := id hu
  have b1 : Below w.heap.size w (w.alloc (.cells #[.int .i64 n, .slice a es.length ca] 29)) := (Below.refl _ _).alloc (Nat.le_refl _) _
  have X := Lib.hid (graphAt_new w n (.slice a es.length ca))
  have S1 := Lib.hid (slii_one (hu.below b1))
  have b2 := b1.alloc (by simp) (.cells #[.slice va cs.length vc] 25)
  have X2 := Lib.hid (X.out.below ((Below.refl _ _).alloc (Nat.le_refl _) (.cells #[.slice va cs.length vc] 25)))
  have hno := nodeC_code (n := n) (es := es) (q := q) (cs := cs) (node := node)
  have hyes := nodeC_node (n := n) (es := es) (q := q) (cs := cs) (node := node)
  have hok := fun h => askedC_ok (n := n) (q := q) (es := es) (r := colsOk n 0 (IntKind.i64.wrap (q - 1)) cs) h
  rw [← codeC_one] at hok
  generalize hcd : codeC n es q [cs] = cd at hno hyes hok
  have HCD := Lib.hid hcd
  have HNO := Lib.hid hno
  have HYES := Lib.hid hyes
  have HOK := Lib.hid hok
  clear hcd hno hyes hok hu
  by_cases hz : cd = 0
  · obtain ⟨hg, hq1, hq4, hrt⟩ := HOK.out hz
    obtain ⟨m, rfl, hm1, hm5, _, _⟩ := graphOk_all hg
    have hy := HYES.out hz
    rw [IntWalk.i64_in _ (by omega)] at hy
    generalize hp : inR node 0 ((m : Int) - 1) = p at hy
    have HP := Lib.hid hp
    have HY := Lib.hid hy
    have ht : (cd == 0) = true := by simp [hz]
    have HZ := Lib.hid hz
    clear hz hg hrt hy hp hq1 hq4
    go_enter Try.func87, Try.ntmps87
    go_wp2_with fail
    refine (colourCode_any m q _ (HA.out _ b2) (by have := S1.out; simpa using this)).mono ?_
    rintro e w2 ⟨rfl, b3⟩
    rw [HCD.out]
    have hb2 := b2.trans (b3.mono b2.size)
    obtain ⟨_, c0, c1⟩ := X2.out.below b3
    simp only [Nat.zero_add] at c0 c1
    clear b3
    go_wp2_with fail
    refine (isNode_any m node _ ⟨_, _, _, rfl⟩ hm1 (by omega)).mono ?_
    rintro e w3 ⟨rfl, b4⟩
    rw [HP.out]
    cases p
    · go_wp2
      go_ret
      exact ⟨ri (by rw [HY.out]; rfl), hb2.trans (b4.mono hb2.size)⟩
    · go_wp2
      go_ret
      exact ⟨ri (by rw [HY.out, HZ.out]; rfl), hb2.trans (b4.mono hb2.size)⟩
  · have ht : (cd == 0) = false := by simp [hz]
    have HZ := Lib.hid hz
    clear hz
    go_enter Try.func87, Try.ntmps87
    go_wp2_with fail
    refine (colourCode_any n q _ (HA.out _ b2) (by have := S1.out; simpa using this)).mono ?_
    rintro e w2 ⟨rfl, b3⟩
    rw [HCD.out]
    go_wp2
    go_ret
    exact ⟨ri (HNO.out HZ.out).symm, b2.trans (b3.mono b2.size)⟩
end Go.Proofs.Ytdhkbajkghngeaa
