/-
  The closed facts that all rows of this seat share, each by itself. With it: ChangeSet: the words and the reference's pieces. ChangeSet, the program's side. ChangeSet, the reference's side. Arguments of laws: boxed graphs. FnExactChangeSet: both answer the same, and leave what they are given as it was.
-/
import Derived.Test.YtenemohjmemoiaaZRowChangeSet5
import Derived.Test.YtenemohjmemoiaaZRowChangeSet4
import Derived.Test.YtenemohjmemoiaaZRowChangeSet3
import Derived.Test.YtenemohjmemoiaaZRowChangeSet2
import Derived.Test.YtenemohjmemoiaaZRowChangeSet1
import Derived.Deep.RegionWith
import Derived.Deep.DeepCutAuto
set_option linter.unusedVariables false
set_option linter.unusedSimpArgs false
namespace Go.Proofs.Ytenemohjmemoiaa
open Go.RowKit Go.Sort
def chgC (n : Int) (es : List (List Int)) (wt : Int) (set : List Int) (node draw : Int) : Int := askedC n es 1 ((riseN 0 (IntKind.i64.wrap (n - 1)) set set.length && inR node 0 (IntKind.i64.wrap (n - 1)) && inR draw 0 wt) && inR wt 1 60)
def chgR (n : Int) (es : List (List Int)) (wt : Int) (set : List Int) (node draw : Int) : List Int × Int :=
  if chgC n es wt set node draw = 0 then (if indepB es set = true then (chgL es set node draw, 0) else ([], 4)) else ([], chgC n es wt set node draw)
theorem chgC_ok {n wt node draw : Int} {es : List (List Int)} {set : List Int} (h : chgC n es wt set node draw = 0) : graphOk n es = true ∧ riseN 0 (IntKind.i64.wrap (n - 1)) set set.length = true ∧ inR node 0 (IntKind.i64.wrap (n - 1)) = true ∧ inR draw 0 wt = true ∧ inR wt 1 60 = true := by
  obtain ⟨h1, _, _, h2⟩ := askedC_ok h
  rw [Bool.and_eq_true, Bool.and_eq_true, Bool.and_eq_true] at h2
  exact ⟨h1, h2.1.1.1, h2.1.1.2, h2.1.2, h2.2⟩
theorem chgC_code {n wt node draw : Int} {es : List (List Int)} {set : List Int} (h : weightC n es wt set ≠ 0) : chgC n es wt set node draw = weightC n es wt set := by
  unfold chgC weightC askedC at *
  cases hg : graphOk n es
  · rfl
  · rw [hg] at h
    simp only [if_true] at h ⊢
    have hi : inR 1 1 4 = true := rfl
    rw [hi]
    generalize riseN 0 (IntKind.i64.wrap (n - 1)) set set.length = r at h ⊢
    generalize inR wt 1 60 = p at h ⊢
    cases r <;> cases p <;> simp at h ⊢
theorem chgC_node {n wt node draw : Int} {es : List (List Int)} {set : List Int} (h : weightC n es wt set = 0) : chgC n es wt set node draw = if (inR node 0 (IntKind.i64.wrap (n - 1)) && inR draw 0 wt) = true then 0 else 2 := by
  unfold chgC weightC askedC at *
  cases hg : graphOk n es
  · rw [hg] at h; simp at h
  · rw [hg] at h
    simp only [if_true] at h ⊢
    have hi : inR 1 1 4 = true := rfl
    rw [hi]
    generalize riseN 0 (IntKind.i64.wrap (n - 1)) set set.length = r at h ⊢
    generalize inR wt 1 60 = p at h ⊢
    generalize inR node 0 (IntKind.i64.wrap (n - 1)) = a
    generalize inR draw 0 wt = b
    cases r <;> cases p <;> simp at h
    cases a <;> cases b <;> simp
theorem weightC_ok {n wt : Int} {es : List (List Int)} {set : List Int} (h : weightC n es wt set = 0) : graphOk n es = true ∧ inR wt 1 60 = true ∧ riseN 0 (IntKind.i64.wrap (n - 1)) set set.length = true := by
  unfold weightC at h
  split at h
  · rename_i hg
    split at h
    · rename_i h2; rw [Bool.and_eq_true] at h2; exact ⟨hg, h2.1, h2.2⟩
    · omega
  · omega
theorem chgR_len (n : Int) (es : List (List Int)) (wt : Int) (set : List Int) (node draw : Int) : (chgR n es wt set node draw).1.length ≤ 6 := by
  unfold chgR
  split
  · rename_i h
    obtain ⟨hg, hr, _⟩ := chgC_ok h
    obtain ⟨m, rfl, h1, h5, _⟩ := graphOk_all hg
    rw [IntWalk.i64_in _ (by omega)] at hr
    have h2 := rise_len hr
    have h3 : (dropN set node).length ≤ set.length := List.length_filter_le _ _
    have h4 := putL_len node (dropN set node)
    split
    · unfold chgL
      dsimp only
      split
      · omega
      · split <;> omega
    · simp
  · simp
set_option maxHeartbeats 2000000 in
theorem l00Put_any {u : Value} {xs : List Int} (n : Int) (w : World) (ha : SlI w u xs) (hl : xs.length ≤ 1000) :
    Calls Try.prog 119 #[u, .int .i64 n] w fun e w' => ∃ v, e = .returned v ∧ OwnI w' w.heap.size v (putL n xs) ∧ Below w.heap.size w w' := by
  have HA := Lib.hid (fun W (h : Below w.heap.size w W) => ha.below h)
  obtain ⟨a, ca, rfl, _, hca, _⟩ := ha
  unfold maxLen at hca
  have own0 := OwnI.empty w (base := w.heap.size) (Nat.le_refl _)
  have b0 : Below w.heap.size w (w.alloc (.cells #[] 2)) := (Below.refl _ _).alloc (Nat.le_refl _) _
  go_enter Try.func119, Try.ntmps119
  go_wp2
  go_loopw [5, 6, 7] (fun v d i wr => ∃ (k : Nat) (D : Bool), k ≤ xs.length ∧ i = .int .i64 k ∧ d = .bool D ∧ OwnI wr w.heap.size v (if D = true then putL n (xs.take k) else xs.take k) ∧ Hid (D = false → ∀ y ∈ xs.take k, y < n) ∧ Hid (D = true → ∃ y ∈ xs.take k, n ≤ y) ∧ Below w.heap.size w wr) (fun _ _ i _ => xs.length - (intOf i).toNat)
  case atStart => exact ⟨0, false, Nat.zero_le _, rfl, rfl, by simpa using own0, Lib.hid (fun _ => by simp), Lib.hid (fun h => by simp at h), b0⟩
  case round =>
    clear own0 b0
    obtain ⟨k, D, hk, rfl, rfl, hown, hno, hyes, hbr⟩ := hrel
    by_cases hlt : k < xs.length
    · have i1 : (k : Int) < (xs.length : Int) := by omega
      have ik0 : (0 : Int) ≤ (k : Int) := by omega
      obtain ⟨_, _, he', _, _, vr⟩ := HA.out _ hbr
      simp only [Value.slice.injEq] at he'
      obtain ⟨rfl, _, rfl⟩ := he'
      obtain ⟨cb, co, rfl, gk⟩ := vr.one (i64s_get hlt)
      have htk : xs.take (k + 1) = xs.take k ++ [xs[k]] := List.take_succ_eq_append_getElem hlt
      generalize xs[k] = x at gk htk
      have HTK := Lib.hid htk
      have htl : (xs.take k).length ≤ 1000 := by rw [List.length_take]; omega
      have hpl := putL_len n (xs.take k)
      have hsz := hbr.size
      have HB := Lib.hid hbr
      clear htk hbr vr
      cases D
      · have hown : OwnI wr w.heap.size _ (xs.take k) := hown
        have hln : (xs.take k).length < 16777216 := by omega
        have HNO := Lib.hid (hno.out rfl)
        clear hno hyes
        by_cases hge : n ≤ x
        · by_cases hgt : n < x
          · go_wp2_with (at_builtin; refine append_i64 _ n _ _ rfl rfl rfl hown rfl hln hsz ?_)
            intro v' w1 o1 b1 z1
            have hb1 := (HB.out.alloc hsz _).trans b1
            obtain ⟨_, _, he', _, _, vr⟩ := HA.out _ hb1
            simp only [Value.slice.injEq] at he'
            obtain ⟨he1, _, rfl⟩ := he'
            have hsz1 := hb1.size
            have gk1 : w1.cell? ⟨cb, co + k, none⟩ = some (.int .i64 x) := by
              obtain ⟨cb2, co2, he2, g2⟩ := vr.one (i64s_get hlt)
              rw [← he1] at he2
              simp only [Option.some.injEq, Addr.mk.injEq] at he2
              obtain ⟨rfl, rfl, _⟩ := he2
              rw [g2]
              have h3 := HTK.out
              rw [List.take_succ_eq_append_getElem hlt, List.append_cancel_left_eq] at h3
              simp only [List.cons.injEq, and_true] at h3
              rw [h3]
            have hln1 : (xs.take k ++ [n]).length < 16777216 := by simp; omega
            clear b1 vr he1 gk
            go_wp2_with (at_builtin; refine append_i64 _ x _ _ rfl rfl rfl o1 rfl hln1 hsz1 ?_)
            intro v2 w2 o2 b2 z2
            have hb2 := (hb1.alloc hsz1 _).trans b2
            clear b2
            go_wp2
            go_roundw
            case rel => exact ⟨k + 1, true, by omega, by go_num, rfl, by rw [HTK.out, if_pos rfl, putL_gt HNO.out hgt]; simpa using o2, Lib.hid (fun h => by simp at h), Lib.hid (fun _ => ⟨x, by rw [HTK.out]; simp, hge⟩), hb2⟩
            case measure => simp [intOf]; omega
          · obtain rfl : x = n := by omega
            go_wp2_with (at_builtin; refine append_i64 _ x _ _ rfl rfl rfl hown rfl hln hsz ?_)
            intro v2 w2 o2 b2 z2
            have hb2 := (HB.out.alloc hsz _).trans b2
            clear b2
            go_wp2
            go_roundw
            case rel => exact ⟨k + 1, true, by omega, by go_num, rfl, by rw [HTK.out, if_pos rfl, putL_eq HNO.out]; exact o2, Lib.hid (fun h => by simp at h), Lib.hid (fun _ => ⟨x, by rw [HTK.out]; simp, hge⟩), hb2⟩
            case measure => simp [intOf]; omega
        · have hlt2 : x < n := by omega
          go_wp2_with (at_builtin; refine append_i64 _ x _ _ rfl rfl rfl hown rfl hln hsz ?_)
          intro v2 w2 o2 b2 z2
          have hb2 := (HB.out.alloc hsz _).trans b2
          clear b2
          go_wp2
          go_roundw
          case rel => exact ⟨k + 1, false, by omega, by go_num, rfl, by rw [HTK.out]; simpa using o2, Lib.hid (fun _ y hy => by
            rw [HTK.out, List.mem_append, List.mem_singleton] at hy
            rcases hy with hy | rfl
            · exact HNO.out y hy
            · exact hlt2), Lib.hid (fun h => by simp at h), hb2⟩
          case measure => simp [intOf]; omega
      · have hown : OwnI wr w.heap.size _ (putL n (xs.take k)) := hown
        have hln : (putL n (xs.take k)).length < 16777216 := by omega
        have HYES := Lib.hid (hyes.out rfl)
        clear hno hyes
        go_wp2_with (at_builtin; refine append_i64 _ x _ _ rfl rfl rfl hown rfl hln hsz ?_)
        intro v2 w2 o2 b2 z2
        have hb2 := (HB.out.alloc hsz _).trans b2
        clear b2
        go_wp2
        go_roundw
        case rel => exact ⟨k + 1, true, by omega, by go_num, rfl, by rw [HTK.out, if_pos rfl, putL_more HYES.out]; exact o2, Lib.hid (fun h => by simp at h), Lib.hid (fun _ => by
          obtain ⟨y, hy, hn⟩ := HYES.out
          exact ⟨y, by rw [HTK.out]; simp [hy], hn⟩), hb2⟩
        case measure => simp [intOf]; omega
    · obtain rfl : k = xs.length := by omega
      have hsz := hbr.size
      cases D
      · have hown : OwnI wr w.heap.size _ (xs.take xs.length) := hown
        rw [List.take_length] at hown
        have HNO := Lib.hid (hno.out rfl)
        have hln : xs.length < 16777216 := by omega
        clear hno hyes
        go_wp2_with (at_builtin; refine append_i64 _ n _ _ rfl rfl rfl hown rfl hln hsz ?_)
        intro v2 w2 o2 b2 z2
        have hb2 := (hbr.alloc hsz _).trans b2
        clear b2
        go_wp2
        go_ret
        exact ⟨_, rfl, by rw [putL_low (by have := HNO.out; rw [List.take_length] at this; exact this)]; exact o2, hb2⟩
      · have hown2 : OwnI wr w.heap.size _ (putL n (xs.take xs.length)) := hown
        rw [List.take_length] at hown2
        clear hno hyes hown
        go_wp2
        go_ret
        exact ⟨_, rfl, hown2, hbr⟩
theorem dropN_yes {set : List Int} {node : Int} {k : Nat} (h : k < set.length) (hn : set[k] = node) : dropN (set.take (k + 1)) node = dropN (set.take k) node := by
  unfold dropN; rw [List.take_succ_eq_append_getElem h, List.filter_append]; simp [hn]
theorem dropN_no {set : List Int} {node : Int} {k : Nat} (h : k < set.length) (hn : ¬ set[k] = node) : dropN (set.take (k + 1)) node = dropN (set.take k) node ++ [set[k]] := by
  unfold dropN; rw [List.take_succ_eq_append_getElem h, List.filter_append]; simp [hn]
set_option maxRecDepth 100000 in
set_option maxHeartbeats 4000000 in
theorem l08Change_any {v u : Value} {es : List (List Int)} {set : List Int} (b o m : Nat) (node draw : Int) (w : World) (hc : GraphAt w b o m v) (ha : SlII w v es) (hu : SlI w u set) (hE : EdgesB m es) (hl : set.length ≤ 100) :
    Calls Try.prog 65 #[.pointer (some ⟨b, o, none⟩), u, .int .i64 node, .int .i64 draw] w fun e w' => ∃ r, e = .returned r ∧ OwnI w' w.heap.size r (chgL es set node draw) ∧ Below w.heap.size w w' := by
  have HA := Lib.hid (fun W (h : Below w.heap.size w W) => ha.below h)
  have HC := Lib.hid (fun W (h : Below w.heap.size w W) => hc.below h)
  have HV := Lib.hid (fun W (h : Below w.heap.size w W) => hu.below h)
  have HE := Lib.hid hE
  obtain ⟨va, vc, rfl, _, hvc, _⟩ := hu
  unfold maxLen at hvc
  have own0 := OwnI.empty w (base := w.heap.size) (Nat.le_refl _)
  have b0 : Below w.heap.size w (w.alloc (.cells #[] 2)) := (Below.refl _ _).alloc (Nat.le_refl _) _
  clear ha hc hE
  go_enter Try.func65, Try.ntmps65
  go_wp2
  go_loopw [9, 10] (fun r i wr => ∃ k : Nat, k ≤ set.length ∧ i = .int .i64 k ∧ OwnI wr w.heap.size r (dropN (set.take k) node) ∧ Below w.heap.size w wr) (fun _ i _ => set.length - (intOf i).toNat)
  case atStart => exact ⟨0, Nat.zero_le _, rfl, by simpa [dropN] using own0, b0⟩
  case round =>
    clear own0 b0
    obtain ⟨k, hk, rfl, hown, hbr⟩ := hrel
    by_cases hlt : k < set.length
    · have i1 : (k : Int) < (set.length : Int) := by omega
      have ik0 : (0 : Int) ≤ (k : Int) := by omega
      obtain ⟨_, _, he', _, _, vr⟩ := HV.out _ hbr
      simp only [Value.slice.injEq] at he'
      obtain ⟨rfl, _, rfl⟩ := he'
      obtain ⟨cb, co, rfl, gk⟩ := vr.one (i64s_get hlt)
      have hyes := fun h => dropN_yes (node := node) hlt h
      have hno := fun h => dropN_no (node := node) hlt h
      have hdl : (dropN (set.take k) node).length ≤ (set.take k).length := List.length_filter_le _ _
      rw [List.length_take] at hdl
      have hln : (dropN (set.take k) node).length < 16777216 := by omega
      generalize set[k] = x at gk hyes hno
      have hsz := hbr.size
      clear vr hdl
      by_cases hx : x = node
      · have ht : (x != node) = false := by simp [hx]
        have ht2 : (x == node) = true := by simp [hx]
        have HY := Lib.hid (hyes hx)
        clear hyes hno hx
        go_wp2
        go_roundw
        case rel => exact ⟨k + 1, by omega, by go_num, by rw [HY.out]; exact hown, hbr⟩
        case measure => simp [intOf]; omega
      · have ht : (x != node) = true := by simp [hx]
        have ht2 : (x == node) = false := by simp [hx]
        have HN := Lib.hid (hno hx)
        clear hyes hno hx
        go_wp2_with (at_builtin; refine append_i64 _ x _ _ rfl rfl rfl hown rfl hln hsz ?_)
        intro v2 w2 o2 b2 z2
        have hb2 := (hbr.alloc hsz _).trans b2
        clear b2
        go_wp2
        go_roundw
        case rel => exact ⟨k + 1, by omega, by go_num, by rw [HN.out]; exact o2, hb2⟩
        case measure => simp [intOf]; omega
    · obtain rfl : k = set.length := by omega
      rw [List.take_length] at hown
      have HCH : Hid (chgL es set node draw = if draw = 0 then dropN set node else if nearAny es (dropN set node) node = true then dropN set node else putL node (dropN set node)) := Lib.hid rfl
      have hdl : (dropN set node).length ≤ set.length := List.length_filter_le _ _
      generalize dropN set node = D at hown HCH hdl
      obtain ⟨ra, rc, rfl, _, hrc, _⟩ := id hown.sl
      unfold maxLen at hrc
      have HO := Lib.hid hown
      have HB := Lib.hid hbr
      obtain ⟨wo, hwo⟩ : ∃ wo : World, wo = wr := ⟨_, rfl⟩
      subst hwo
      clear hown hbr
      go_wp2
      go_loopw [11] (fun i wr => ∃ q : Nat, q ≤ D.length ∧ i = .int .i64 q ∧ Hid ((D.take q).any (fun o => nearB es node o) = false) ∧ Hid (draw = 0 → q = 0) ∧ Below wo.heap.size wo wr) (fun i _ => D.length - (intOf i).toNat)
      case atStart => exact ⟨0, Nat.zero_le _, rfl, Lib.hid rfl, Lib.hid (fun _ => rfl), Below.refl _ _⟩
      case round =>
        obtain ⟨q, hq, rfl, hnr, hz, hbo⟩ := hrel
        have hbw := HB.out.trans (hbo.mono HB.out.size)
        have ho2 := HO.out.below hbo
        by_cases hqt : q < D.length
        · have iq : (q : Int) < (D.length : Int) := by omega
          have iq0 : (0 : Int) ≤ (q : Int) := by omega
          obtain ⟨_, _, he', _, _, vr⟩ := ho2.sl
          simp only [Value.slice.injEq] at he'
          obtain ⟨rfl, _, rfl⟩ := he'
          obtain ⟨cb, co, rfl, gq⟩ := vr.one (i64s_get hqt)
          have HNX := Lib.hid (fun h => any_take_succL (p := fun o => nearB es node o) hnr.out hqt h)
          have HAT := Lib.hid (fun h => any_atL (p := fun o => nearB es node o) hqt h)
          generalize D[q] = x at gq HNX HAT
          have HO2 := Lib.hid ho2
          have HBW := Lib.hid hbw
          clear vr ho2 hbw
          by_cases hd : draw = 0
          · have ht : (draw == 0) = true := by simp [hd]
            have HD := Lib.hid hd
            clear hd
            go_wp2
            go_ret
            exact ⟨_, rfl, by rw [HCH.out, if_pos HD.out]; exact HO2.out, HBW.out⟩
          · have ht : (draw == 0) = false := by simp [hd]
            have HD := Lib.hid hd
            clear hd
            generalize hp : nearB es node x = p at HNX HAT
            have HP := Lib.hid hp
            clear hp
            cases p
            · go_wp2_with fail
              refine (l08Near_q HP.out b o m m _ (HC.out _ HBW.out) (HA.out _ HBW.out) HE.out).mono ?_
              rintro e w4 ⟨rfl, b4⟩
              have hb4 := hbo.trans (b4.mono hbo.size)
              clear b4
              go_wp2
              go_roundw
              case rel => exact ⟨q + 1, by omega, by go_num, Lib.hid (HNX.out (by simp)), Lib.hid (fun h => absurd h HD.out), hb4⟩
              case measure => simp [intOf]; omega
            · go_wp2_with fail
              refine (l08Near_q HP.out b o m m _ (HC.out _ HBW.out) (HA.out _ HBW.out) HE.out).mono ?_
              rintro e w4 ⟨rfl, b4⟩
              have ho4 := HO2.out.below b4
              have hb4 := HBW.out.trans (b4.mono HBW.out.size)
              clear b4
              go_wp2
              go_ret
              exact ⟨_, rfl, by rw [HCH.out, if_neg HD.out, if_pos (show nearAny es D node = true from HAT.out (by simp))]; exact ho4, hb4⟩
        · obtain rfl : q = D.length := by omega
          have HNR := hnr
          have hna := hnr.out
          rw [List.take_length] at hna
          have HNA := Lib.hid (show nearAny es D node = false from hna)
          have HO2 := Lib.hid ho2
          have HBW := Lib.hid hbw
          clear hna ho2 hbw HNR hnr
          by_cases hd : draw = 0
          · have ht : (draw == 0) = true := by simp [hd]
            have HD := Lib.hid hd
            clear hd
            go_wp2
            go_ret
            exact ⟨_, rfl, by rw [HCH.out, if_pos HD.out]; exact HO2.out, HBW.out⟩
          · have ht : (draw == 0) = false := by simp [hd]
            have HD := Lib.hid hd
            clear hd
            go_wp2_with fail
            refine (l00Put_any node _ HO2.out.sl (by omega)).mono ?_
            rintro e w4 ⟨r, rfl, o4, b4⟩
            have hz4 := HBW.out.size
            go_wp2
            go_ret
            exact ⟨_, rfl, by rw [HCH.out, if_neg HD.out, if_neg (by rw [HNA.out]; simp)]; exact o4.lower hz4, HBW.out.trans (b4.mono hz4)⟩
theorem l08Set_any {v u : Value} {s : List Int} (b o : Nat) (n hi : Int) (w : World) (hc : GraphAt w b o n v) (hu : SlI w u s) (hh : IntKind.i64.wrap (n - 1) = hi) :
    Calls Try.prog 62 #[.pointer (some ⟨b, o, none⟩), u] w fun e w' => e = .returned (.bool (riseN 0 hi s s.length)) ∧ Below w.heap.size w w' := by
  obtain ⟨_, c0, c1⟩ := hc
  have hw : wrap64 (n - 1) = hi := by rw [← IntWalk.i64_left]; exact hh
  have HU := Lib.hid hu
  obtain ⟨va, vc, rfl, _⟩ := hu
  generalize hr : riseN 0 hi s s.length = r
  have HR := Lib.hid hr
  clear hr
  go_enter Try.func62, Try.ntmps62
  go_wp2_with fail
  refine (l00Rises_any 0 hi _ HU.out).mono ?_
  rintro e w2 ⟨rfl, b2⟩
  rw [HR.out]
  go_wp2
  go_ret
  exact ⟨rfl, b2⟩
theorem l08Weighed_any {v : Value} {es : List (List Int)} (b o : Nat) (n wt : Int) (right : Bool) (w : World) (hc : GraphAt w b o n v) (ha : SlII w v es) :
    Calls Try.prog 61 #[.pointer (some ⟨b, o, none⟩), .int .i64 wt, .bool right] w fun e w' => e = .returned (.int .i64 (askedC n es 1 (right && inR wt 1 60))) ∧ Below w.heap.size w w' := by
  have HA := Lib.hid ha
  have HC := Lib.hid hc
  clear ha hc
  generalize hp : inR wt 1 60 = p
  have HP := Lib.hid hp
  clear hp
  cases right
  · simp only [Bool.false_and]
    go_enter Try.func61, Try.ntmps61
    go_wp2_with fail
    refine (l08Asked_any b o n 1 false _ HC.out HA.out).mono ?_
    rintro e w2 ⟨rfl, b2⟩
    generalize hcd : askedC n es 1 false = cd
    have HCD := Lib.hid hcd
    clear hcd
    go_wp2
    go_ret
    exact ⟨by rw [HCD.out]; rfl, b2⟩
  · simp only [Bool.true_and]
    go_enter Try.func61, Try.ntmps61
    go_wp2_with fail
    refine (l00In_any wt 1 60 _).mono ?_
    rintro e w2 ⟨rfl, rfl⟩
    rw [HP.out]
    go_wp2_with fail
    refine (l08Asked_any b o n 1 p _ HC.out HA.out).mono ?_
    rintro e w2 ⟨rfl, b2⟩
    generalize hcd : askedC n es 1 p = cd
    have HCD := Lib.hid hcd
    clear hcd
    go_wp2
    go_ret
    exact ⟨by rw [HCD.out]; rfl, b2⟩
end Go.Proofs.Ytenemohjmemoiaa
namespace Go.Proofs.Ytenemohjmemoiaa
open Go.RowKit Go.Sort
set_option maxRecDepth 100000 in
set_option maxHeartbeats 4000000 in
theorem ImplChangeSet_any {v u : Value} {es : List (List Int)} {set : List Int} (n wt node draw : Int) (w : World) (ha : SlII w v es) (hu : SlI w u set) :
    Calls Try.prog 18 #[.agg #[.int .i64 n, v], .int .i64 wt, u, .int .i64 node, .int .i64 draw] w (FreshIC w (chgR n es wt set node draw)) := by
  have HA := Lib.hid (fun W (h : Below w.heap.size w W) => ha.below h)
  have HV := Lib.hid (fun W (h : Below w.heap.size w W) => hu.below h)
  obtain ⟨a, ca, us, rfl, _⟩ := ha
  obtain ⟨va, vc, rfl, _⟩ := id hu
  have b1 : Below w.heap.size w (w.alloc (.cells #[.int .i64 n, .slice a es.length ca] 24)) := (Below.refl _ _).alloc (Nat.le_refl _) _
  have X := Lib.hid (graphAt_new w n (.slice a es.length ca))
  have S1 := Lib.hid (slii_one (hu.below b1))
  have b2 := b1.alloc (by simp) (.cells #[.slice va set.length vc] 31)
  have X2 := Lib.hid (X.out.below ((Below.refl _ _).alloc (Nat.le_refl _) (.cells #[.slice va set.length vc] 31)))
  have hR : chgR n es wt set node draw = if chgC n es wt set node draw = 0 then (if indepB es set = true then (chgL es set node draw, 0) else ([], 4)) else ([], chgC n es wt set node draw) := rfl
  have HR := Lib.hid hR
  generalize hwc : weightC n es wt set = wc
  have HWC := Lib.hid hwc
  clear hu hR hwc
  by_cases hz : wc = 0
  · have hwz : weightC n es wt set = 0 := by rw [HWC.out, hz]
    obtain ⟨hg, _, hrise⟩ := weightC_ok hwz
    obtain ⟨m, rfl, hm1, hm5, hE, hl⟩ := graphOk_all hg
    have hcn := chgC_node (node := node) (draw := draw) hwz
    rw [IntWalk.i64_in _ (by omega)] at hcn hrise
    generalize hr2 : inR node 0 ((m : Int) - 1) = r2 at hcn
    generalize hr3 : inR draw 0 wt = r3 at hcn
    have HCN := Lib.hid hcn
    have HR2 := Lib.hid hr2
    have HR3 := Lib.hid hr3
    have HE := Lib.hid hE
    have ht : (wc == 0) = true := by simp [hz]
    have ht2 : (wc != 0) = false := by simp [hz]
    have HRI := Lib.hid hrise
    have hsl := rise_len hrise
    have HZ := Lib.hid hz
    clear hz hwz hg hcn hr2 hr3 hE hrise
    cases r2
    · have hR0 : chgR m es wt set node draw = ([], 2) := by rw [HR.out, HCN.out]; simp
      have HR0 := Lib.hid hR0
      clear hR0
      go_enter Try.func18, Try.ntmps18
      go_wp2_with fail
      refine (weightCode_any m wt _ (HA.out _ b2) (by have := S1.out; simpa using this)).mono ?_
      rintro e w2 ⟨rfl, b3⟩
      rw [HWC.out]
      have hb2 := b2.trans (b3.mono b2.size)
      obtain ⟨_, c0, c1⟩ := X2.out.below b3
      simp only [Nat.zero_add] at c0 c1
      clear b3
      go_wp2_with fail
      refine (isNode_any m node _ ⟨_, _, _, rfl⟩ hm1 (by omega)).mono ?_
      rintro e w3 ⟨rfl, b4⟩
      rw [HR2.out]
      have hb3 := hb2.trans (b4.mono hb2.size)
      go_wp2
      go_ret2
      rw [HR0.out]
      exact ⟨_, rfl, OwnI.nil _ _, hb3⟩
    · cases r3
      · have hR0 : chgR m es wt set node draw = ([], 2) := by rw [HR.out, HCN.out]; simp
        have HR0 := Lib.hid hR0
        clear hR0
        go_enter Try.func18, Try.ntmps18
        go_wp2_with fail
        refine (weightCode_any m wt _ (HA.out _ b2) (by have := S1.out; simpa using this)).mono ?_
        rintro e w2 ⟨rfl, b3⟩
        rw [HWC.out]
        have hb2 := b2.trans (b3.mono b2.size)
        obtain ⟨_, c0, c1⟩ := X2.out.below b3
        simp only [Nat.zero_add] at c0 c1
        clear b3
        go_wp2_with fail
        refine (isNode_any m node _ ⟨_, _, _, rfl⟩ hm1 (by omega)).mono ?_
        rintro e w3 ⟨rfl, b4⟩
        rw [HR2.out]
        have hb3 := hb2.trans (b4.mono hb2.size)
        clear b4
        go_wp2_with fail
        refine (inRange_any draw 0 wt _).mono ?_
        rintro e w4 ⟨rfl, rfl⟩
        rw [HR3.out]
        go_wp2
        go_ret2
        rw [HR0.out]
        exact ⟨_, rfl, OwnI.nil _ _, hb3⟩
      · have hR0 : chgR m es wt set node draw = if indepB es set = true then (chgL es set node draw, 0) else ([], 4) := by rw [HR.out, HCN.out]; simp
        generalize hq : indepB es set = q at hR0
        have HQ := Lib.hid hq
        have HR0 := Lib.hid hR0
        have hd0 := (inR_iff.1 HR3.out).1
        clear hq hR0
        go_enter Try.func18, Try.ntmps18
        go_wp2_with fail
        refine (weightCode_any m wt _ (HA.out _ b2) (by have := S1.out; simpa using this)).mono ?_
        rintro e w2 ⟨rfl, b3⟩
        rw [HWC.out]
        have hb2 := b2.trans (b3.mono b2.size)
        have X3 := Lib.hid (X2.out.below b3)
        obtain ⟨_, c0, c1⟩ := X3.out
        simp only [Nat.zero_add] at c0 c1
        clear b3
        go_wp2_with fail
        refine (isNode_any m node _ ⟨_, _, _, rfl⟩ hm1 (by omega)).mono ?_
        rintro e w3 ⟨rfl, b4⟩
        rw [HR2.out]
        have hb3 := hb2.trans (b4.mono hb2.size)
        have X4 := Lib.hid (X3.out.below b4)
        clear b4 c0 c1
        obtain ⟨_, c0, c1⟩ := X4.out
        simp only [Nat.zero_add] at c0 c1
        go_wp2_with fail
        refine (inRange_any draw 0 wt _).mono ?_
        rintro e w4 ⟨rfl, rfl⟩
        rw [HR3.out]
        go_wp2_with fail
        refine (isIndependent_any m m _ (HA.out _ hb3) (HV.out _ hb3) HE.out).mono ?_
        rintro e w5 ⟨rfl, b5⟩
        rw [HQ.out]
        have hb5 := hb3.trans (b5.mono hb3.size)
        have X5 := Lib.hid (X4.out.below b5)
        clear b5 c0 c1
        cases q
        · go_wp2
          go_ret2
          rw [HR0.out]
          exact ⟨_, rfl, OwnI.nil _ _, hb5⟩
        · obtain ⟨_, c0, c1⟩ := X5.out
          simp only [Nat.zero_add] at c0 c1
          have hpw := Lib.hid (rise_all HRI.out).1
          by_cases hd : draw = 0
          · have hd1 : ¬ (0 < draw) := by omega
            have hch : chgL es set node draw = dropN set node := by unfold chgL; rw [if_pos hd]
            have HCH := Lib.hid hch
            subst hd
            clear hch hd1
            go_wp2_with fail
            refine (changed_any node false _ (HV.out _ hb5) hpw.out (by omega)).mono ?_
            rintro e w6 ⟨r, rfl, o6, b6⟩
            have o6 : OwnI w6 w5.heap.size r (dropN set node) := o6
            go_wp2
            go_ret2
            rw [HR0.out, if_pos trivial, HCH.out]
            exact ⟨_, rfl, o6.lower hb5.size, hb5.trans (b6.mono hb5.size)⟩
          · have hd1 : 0 < draw := by omega
            have hch : chgL es set node draw = if nearAny es (dropN set node) node = true then dropN set node else putL node (dropN set node) := by unfold chgL; rw [if_neg hd]
            rw [← block_law HE.out] at hch
            generalize hbk : blockB es set node = bk at hch
            have HBK := Lib.hid hbk
            have HCH := Lib.hid hch
            clear hch hbk hd
            go_wp2_with fail
            refine (blocked_any m m node _ (HA.out _ hb5) (HV.out _ hb5) HE.out (by omega)).mono ?_
            rintro e w6 ⟨rfl, b6⟩
            rw [HBK.out]
            have hb6 := hb5.trans (b6.mono hb5.size)
            clear b6 c0 c1
            cases bk
            · go_wp2_with fail
              refine (changed_any node true _ (HV.out _ hb6) hpw.out (by omega)).mono ?_
              rintro e w7 ⟨r, rfl, o7, b7⟩
              have o7 : OwnI w7 w6.heap.size r (putL node (dropN set node)) := o7
              go_wp2
              go_ret2
              rw [HR0.out, if_pos trivial, HCH.out]
              exact ⟨_, rfl, o7.lower hb6.size, hb6.trans (b7.mono hb6.size)⟩
            · go_wp2_with fail
              refine (changed_any node false _ (HV.out _ hb6) hpw.out (by omega)).mono ?_
              rintro e w7 ⟨r, rfl, o7, b7⟩
              have o7 : OwnI w7 w6.heap.size r (dropN set node) := o7
              go_wp2
              go_ret2
              rw [HR0.out, if_pos trivial, HCH.out]
              exact ⟨_, rfl, o7.lower hb6.size, hb6.trans (b7.mono hb6.size)⟩
  · have hcc := chgC_code (node := node) (draw := draw) (show weightC n es wt set ≠ 0 by rw [HWC.out]; exact hz)
    rw [HWC.out] at hcc
    have HCC := Lib.hid hcc
    have ht : (wc == 0) = false := by simp [hz]
    have ht2 : (wc != 0) = true := by simp [hz]
    have HZ := Lib.hid hz
    clear hz hcc
    go_enter Try.func18, Try.ntmps18
    go_wp2_with fail
    refine (weightCode_any n wt _ (HA.out _ b2) (by have := S1.out; simpa using this)).mono ?_
    rintro e w2 ⟨rfl, b3⟩
    rw [HWC.out]
    go_wp2
    go_ret2
    rw [HR.out, HCC.out, if_neg HZ.out]
    exact ⟨_, rfl, OwnI.nil _ _, b2.trans (b3.mono b2.size)⟩
end Go.Proofs.Ytenemohjmemoiaa
namespace Go.Proofs.Ytenemohjmemoiaa
open Go.RowKit Go.Sort
set_option maxRecDepth 100000 in
set_option maxHeartbeats 4000000 in
theorem SpecChangeSet_any {v u : Value} {es : List (List Int)} {set : List Int} (n wt node draw : Int) (w : World) (ha : SlII w v es) (hu : SlI w u set) :
    Calls Try.prog 15 #[.agg #[.int .i64 n, v], .int .i64 wt, u, .int .i64 node, .int .i64 draw] w (FreshIC w (chgR n es wt set node draw)) := by
  have HA := Lib.hid (fun W (h : Below w.heap.size w W) => ha.below h)
  have HV := Lib.hid (fun W (h : Below w.heap.size w W) => hu.below h)
  obtain ⟨a, ca, us, rfl, _⟩ := ha
  obtain ⟨va, vc, rfl, _⟩ := hu
  have b1 : Below w.heap.size w (w.alloc (.cells #[.int .i64 n, .slice a es.length ca] 24)) := (Below.refl _ _).alloc (Nat.le_refl _) _
  have X := Lib.hid (graphAt_new w n (.slice a es.length ca))
  have e0 := Lib.hid (fun W : World => OwnI.empty W (base := W.heap.size) (Nat.le_refl _))
  have hR : chgR n es wt set node draw = if chgC n es wt set node draw = 0 then (if indepB es set = true then (chgL es set node draw, 0) else ([], 4)) else ([], chgC n es wt set node draw) := rfl
  have HR := Lib.hid hR
  obtain ⟨hi, hhi⟩ : ∃ hi, IntKind.i64.wrap (n - 1) = hi := ⟨_, rfl⟩
  have HHI := Lib.hid hhi
  have hw1 : wrap64 (n - 1) = hi := by rw [← IntWalk.i64_left]; exact hhi
  have hCC : chgC n es wt set node draw = askedC n es 1 ((riseN 0 hi set set.length && inR node 0 hi && inR draw 0 wt) && inR wt 1 60) := by unfold chgC; rw [hhi]
  have hok := chgC_ok (n := n) (wt := wt) (node := node) (draw := draw) (es := es) (set := set)
  generalize hcd : chgC n es wt set node draw = cd at hCC hok
  generalize hr1 : riseN 0 hi set set.length = r1 at hCC
  generalize hr2 : inR node 0 hi = r2 at hCC
  generalize hr3 : inR draw 0 wt = r3 at hCC
  have HCD := Lib.hid hcd
  have HR1 := Lib.hid hr1
  have HR2 := Lib.hid hr2
  have HR3 := Lib.hid hr3
  have HCC := Lib.hid hCC
  have HOK := Lib.hid hok
  have B1 := Lib.hid b1
  clear hR hhi hcd hr1 hr2 hr3 hCC hok b1
  by_cases hz : cd = 0
  · obtain ⟨hg, h1, h2, h3, h4⟩ := HOK.out hz
    obtain ⟨m, rfl, hm1, hm5, hE, hl⟩ := graphOk_all hg
    rw [HHI.out] at h1 h2
    obtain rfl : r1 = true := by rw [← HR1.out]; exact h1
    obtain rfl : r2 = true := by rw [← HR2.out]; exact h2
    obtain rfl : r3 = true := by rw [← HR3.out]; exact h3
    have HE := Lib.hid hE
    have hR0 : chgR m es wt set node draw = if indepB es set = true then (chgL es set node draw, 0) else ([], 4) := by rw [HR.out, HCD.out, if_pos hz]
    rw [← indep_law hE] at hR0
    have hhm : hi = (m : Int) - 1 := by rw [← HHI.out]; exact IntWalk.i64_in _ (by omega)
    have hsl := rise_len (m := m) (e := set) (by rw [← hhm]; exact h1)
    subst hhm
    clear hw1
    generalize hq : apartN es set set.length = q at hR0
    have HQ := Lib.hid hq
    have HR0 := Lib.hid hR0
    have ht : (cd == 0) = true := by simp [hz]
    have ht2 : (cd != 0) = false := by simp [hz]
    have HCC2 := HCC
    clear hg h1 h2 h3 h4 hE hR0 hq hz
    go_enter Try.func15, Try.ntmps15
    go_wp2_with fail
    refine (l08Set_any w.heap.size 0 m ((m : Int) - 1) _ X.out (HV.out _ B1.out) HHI.out).mono ?_
    rintro e w2 ⟨rfl, b2⟩
    rw [HR1.out]
    have B2 := Lib.hid (B1.out.trans (b2.mono B1.out.size))
    have X2 := Lib.hid (X.out.below b2)
    obtain ⟨_, c0, c1⟩ := X2.out
    simp only [Nat.zero_add] at c0 c1
    clear b2
    go_wp2_with fail
    refine (l00In_any node 0 ((m : Int) - 1) _).mono ?_
    rintro e w3 ⟨rfl, rfl⟩
    rw [HR2.out]
    go_wp2_with fail
    refine (l00In_any draw 0 wt _).mono ?_
    rintro e w3 ⟨rfl, rfl⟩
    rw [HR3.out]
    clear c0 c1
    go_wp2_with fail
    refine (l08Weighed_any w.heap.size 0 m wt true _ X2.out (HA.out _ B2.out)).mono ?_
    rintro e w3 ⟨rfl, b3⟩
    rw [show askedC m es 1 (true && inR wt 1 60) = cd from HCC.out.symm]
    have B3 := Lib.hid (B2.out.trans (b3.mono B2.out.size))
    have X3 := Lib.hid (X2.out.below b3)
    clear b3
    go_wp2_with fail
    refine (l08Apart_any w.heap.size 0 m m _ X3.out (HA.out _ B3.out) (HV.out _ B3.out) HE.out).mono ?_
    rintro e w4 ⟨rfl, b4⟩
    rw [HQ.out]
    have B4 := Lib.hid (B3.out.trans (b4.mono B3.out.size))
    have X4 := Lib.hid (X3.out.below b4)
    clear b4
    cases q
    · go_wp2
      go_ret2
      rw [HR0.out]
      exact ⟨_, rfl, (e0.out _).lower B4.out.size, B4.out.alloc B4.out.size _⟩
    · go_wp2_with fail
      refine (l08Change_any w.heap.size 0 m node draw _ X4.out (HA.out _ B4.out) (HV.out _ B4.out) HE.out (by omega)).mono ?_
      rintro e w5 ⟨r, rfl, o5, b5⟩
      go_wp2
      go_ret2
      rw [HR0.out, if_pos trivial]
      exact ⟨_, rfl, o5.lower B4.out.size, B4.out.trans (b5.mono B4.out.size)⟩
  · have ht : (cd == 0) = false := by simp [hz]
    have ht2 : (cd != 0) = true := by simp [hz]
    have HZ := Lib.hid hz
    clear hz
    cases r1
    · go_enter Try.func15, Try.ntmps15
      go_wp2_with fail
      refine (l08Set_any w.heap.size 0 n hi _ X.out (HV.out _ B1.out) HHI.out).mono ?_
      rintro e w2 ⟨rfl, b2⟩
      rw [HR1.out]
      have B2 := Lib.hid (B1.out.trans (b2.mono B1.out.size))
      have X2 := Lib.hid (X.out.below b2)
      clear b2
      go_wp2_with fail
      refine (l08Weighed_any w.heap.size 0 n wt false _ X2.out (HA.out _ B2.out)).mono ?_
      rintro e w3 ⟨rfl, b3⟩
      rw [show askedC n es 1 (false && inR wt 1 60) = cd from HCC.out.symm]
      have B3 := B2.out.trans (b3.mono B2.out.size)
      go_wp2
      go_ret2
      rw [HR.out, HCD.out, if_neg HZ.out]
      exact ⟨_, rfl, (e0.out _).lower B3.size, B3.alloc B3.size _⟩
    · cases r2
      · go_enter Try.func15, Try.ntmps15
        go_wp2_with fail
        refine (l08Set_any w.heap.size 0 n hi _ X.out (HV.out _ B1.out) HHI.out).mono ?_
        rintro e w2 ⟨rfl, b2⟩
        rw [HR1.out]
        have B2 := Lib.hid (B1.out.trans (b2.mono B1.out.size))
        have X2 := Lib.hid (X.out.below b2)
        obtain ⟨_, c0, c1⟩ := X2.out
        simp only [Nat.zero_add] at c0 c1
        clear b2
        go_wp2_with fail
        refine (l00In_any node 0 hi _).mono ?_
        rintro e w3 ⟨rfl, rfl⟩
        rw [HR2.out]
        clear c0 c1
        go_wp2_with fail
        refine (l08Weighed_any w.heap.size 0 n wt false _ X2.out (HA.out _ B2.out)).mono ?_
        rintro e w3 ⟨rfl, b3⟩
        rw [show askedC n es 1 (false && inR wt 1 60) = cd from HCC.out.symm]
        have B3 := B2.out.trans (b3.mono B2.out.size)
        go_wp2
        go_ret2
        rw [HR.out, HCD.out, if_neg HZ.out]
        exact ⟨_, rfl, (e0.out _).lower B3.size, B3.alloc B3.size _⟩
      · go_enter Try.func15, Try.ntmps15
        go_wp2_with fail
        refine (l08Set_any w.heap.size 0 n hi _ X.out (HV.out _ B1.out) HHI.out).mono ?_
        rintro e w2 ⟨rfl, b2⟩
        rw [HR1.out]
        have B2 := Lib.hid (B1.out.trans (b2.mono B1.out.size))
        have X2 := Lib.hid (X.out.below b2)
        obtain ⟨_, c0, c1⟩ := X2.out
        simp only [Nat.zero_add] at c0 c1
        clear b2
        go_wp2_with fail
        refine (l00In_any node 0 hi _).mono ?_
        rintro e w3 ⟨rfl, rfl⟩
        rw [HR2.out]
        go_wp2_with fail
        refine (l00In_any draw 0 wt _).mono ?_
        rintro e w3 ⟨rfl, rfl⟩
        rw [HR3.out]
        clear c0 c1
        go_wp2_with fail
        refine (l08Weighed_any w.heap.size 0 n wt r3 _ X2.out (HA.out _ B2.out)).mono ?_
        rintro e w3 ⟨rfl, b3⟩
        rw [show askedC n es 1 (r3 && inR wt 1 60) = cd by rw [HCC.out]; simp]
        have B3 := B2.out.trans (b3.mono B2.out.size)
        go_wp2
        go_ret2
        rw [HR.out, HCD.out, if_neg HZ.out]
        exact ⟨_, rfl, (e0.out _).lower B3.size, B3.alloc B3.size _⟩
end Go.Proofs.Ytenemohjmemoiaa
namespace Go.Proofs.Ytenemohjmemoiaa
open Go.RowKit Go.Sort
def argGr (n : Int) (v : Value) : Obj := .cells #[.int .i64 n, v] 30
theorem argGrBox (w : World) (n : Int) (v : Value) : GraphAt (w.alloc (argGr n v)) w.heap.size 0 n v := by
  unfold argGr
  refine ⟨by simp, ?_, ?_⟩ <;> simp [go_sem]
def grObj (n : Int) (v : Value) : Obj := .cells #[.int .i64 n, v] 24
theorem grBox (w : World) (n : Int) (v : Value) : GraphAt (w.alloc (grObj n v)) w.heap.size 0 n v := by
  unfold grObj
  refine ⟨by simp, ?_, ?_⟩ <;> simp [go_sem]
theorem eqGraph_refl {u v : Value} {xss : List (List Int)} (n : Int) (w : World) (ha : SlII w u xss) (hb : SlII w v xss) :
    Calls Try.prog 11 #[.agg #[.int .i64 n, u], .agg #[.int .i64 n, v]] w fun e w' => e = .returned (.bool true) ∧ Below w.heap.size w w' :=
  (eqGraph_any n n w ha hb).mono fun e w' ⟨h, hb⟩ => ⟨by rw [h]; simp, hb⟩

set_option maxHeartbeats 400000 in
theorem markGraph_any {v : Value} {xss : List (List Int)} (n m : Int) (base B : Nat) (w : World) (hm0 : 0 ≤ m) (hm : m + sumL xss ≤ 1000000000000) (ha : OwnIIB w base B v xss) :
    Calls Try.prog 12 #[.agg #[.int .i64 n, v], .int .i64 m] w fun e w' => e = .returned (.int .i64 (m + sumL xss)) ∧ Mid base B w w' := by
  obtain ⟨a, ca, us, rfl, _⟩ := id ha.ii.sl
  have bx : Below w.heap.size w (w.alloc (grObj n (.slice a xss.length ca))) := (Below.refl _ _).alloc (Nat.le_refl _) _
  have hb := ha.below bx
  clear ha
  go_enter Try.func12, Try.ntmps12
  go_wp2_with fail
  refine (markInt64SS_any m base B _ hm0 hm hb).mono ?_
  rintro e w2 ⟨rfl, m2⟩
  go_wp2
  go_ret
  exact ⟨rfl, (Mid.of_below bx).trans m2⟩
end Go.Proofs.Ytenemohjmemoiaa
namespace Go.Proofs.Ytenemohjmemoiaa
open Go.RowKit Go.Sort
set_option linter.unusedVariables false
set_option maxRecDepth 100000 in
set_option maxHeartbeats 4000000 in
theorem FnExactChangeSet_walk {u0 : Value} {xss0 : List (List Int)} (n0 : Int) (a1 : Int) {u2 : Value} {xs2 : List Int} (a3 : Int) (a4 : Int) (w : World) (ha0 : SlII w u0 xss0)  (ha2 : SlI w u2 xs2)  :
    Calls Try.prog 4 #[.agg #[.int .i64 n0, u0], .int .i64 a1, u2, .int .i64 a3, .int .i64 a4] w fun e w' => e = .returned (.bool true) ∧ Below w.heap.size w w' := by
  obtain ⟨pa0, pc0, pu0, rfl, _⟩ := id ha0
  obtain ⟨pa2, pc2, rfl, pl2, pm2, _⟩ := id ha2; unfold maxLen at pm2
  have hb0 : Below w.heap.size w (w.alloc (argGr n0 (.slice pa0 xss0.length pc0))) := ((Below.refl w.heap.size w).alloc (by simp) (argGr n0 (.slice pa0 xss0.length pc0)))
  have A0 := Lib.hid (argGrBox w n0 (.slice pa0 xss0.length pc0))
  have H0 := Lib.hid (fun W (h : Below w.heap.size w W) => ha0.below h)
  clear ha0
  have H2 := Lib.hid (fun W (h : Below w.heap.size w W) => ha2.below h)
  clear ha2
  by_cases hlen2 : 1048576 < xs2.length
  · go_enter Try.func4, Try.ntmps4
    go_wp2
    go_ret
    exact ⟨rfl, hb0⟩
  have hr0 := szII_range 1048576 xss0 (by omega)
  generalize hz0 : szII 1048576 xss0 = l0 at hr0
  have HZ0 := Lib.hid hz0
  clear hz0
  go_enter Try.func4, Try.ntmps4
  obtain ⟨_, q00, q01⟩ := A0.out
  simp only [Nat.zero_add] at q00 q01
  go_wp2_with fail
  refine (szGraph_any n0 1048576 _ (H0.out _ hb0) (by omega) (by omega)).mono ?_
  rintro e w1 ⟨rfl, b1⟩
  rw [HZ0.out]
  have hb1 := hb0.trans (b1.mono hb0.size)
  have A0_1 := Lib.hid (A0.out.below b1)
  clear b1 A0 q00 q01
  by_cases hl0 : l0 < 0
  · go_wp2
    go_ret
    exact ⟨rfl, hb1⟩
  obtain ⟨hxl0, hxr0⟩ := szII_ok HZ0.out hl0
  have HXR0 := Lib.hid hxr0
  clear hxr0
  have HSUM0 := Lib.hid (szII_sum HZ0.out hl0 (by omega))
  generalize hR : chgR n0 xss0 a1 xs2 a3 a4 = R
  have hlen := chgR_len n0 xss0 a1 xs2 a3 a4
  rw [hR] at hlen
  have HR := Lib.hid hR
  clear hR
  obtain ⟨r0, r1⟩ := R
  have hlen : r0.length ≤ 6 := hlen
  have HLEN := Lib.hid hlen
  obtain ⟨_, q00, q01⟩ := A0_1.out
  simp only [Nat.zero_add] at q00 q01
  go_wp2_with fail
  refine (toGraph_any n0 _ (H0.out _ hb1) hxl0 HXR0.out).mono ?_
  rintro e w2 ⟨vs0, rfl, os0, b2⟩
  have Z2 := Lib.hid b2.size
  have hb2 := hb1.trans (b2.mono hb1.size)
  have A0_2 := Lib.hid (A0_1.out.below b2)
  clear b2 A0_1 q00 q01
  obtain ⟨ys0a, ys0c, ys0u, rfl, _⟩ := id os0.sl
  have Os0 := Lib.hid os0
  clear os0
  go_wp2_with fail
  refine (toInt64S_any _ (H2.out _ hb2) (by omega)).mono ?_
  rintro e w3 ⟨vs2, rfl, os2, b3⟩
  have Z3 := Lib.hid b3.size
  have hb3 := hb2.trans (b3.mono hb2.size)
  have A0_3 := Lib.hid (A0_2.out.below b3)
  have Os0_3 := Lib.hid (Os0.out.below b3)
  clear b3 A0_2 Os0 
  obtain ⟨ys2a, ys2c, rfl, _⟩ := id os2.sl
  have Os2 := Lib.hid os2
  clear os2
  go_wp2_with fail
  refine (SpecChangeSet_any n0 a1 a3 a4 _ Os0_3.out.sl Os2.out.sl).mono ?_
  rintro e w4 ⟨vw0, rfl, ow0, b4⟩
  have Z4 := Lib.hid b4.size
  rw [HR.out] at ow0 ⊢
  have hb4 := hb3.trans (b4.mono hb3.size)
  have A0_4 := Lib.hid (A0_3.out.below b4)
  have Os0_4 := Lib.hid (Os0_3.out.below b4)
  have Os2_4 := Lib.hid (Os2.out.below b4)
  clear b4 A0_3 Os0_3 Os2 
  have ow0 : OwnI _ _ _ r0 := ow0
  obtain ⟨zw0a, zw0c, rfl, _⟩ := id ow0.sl
  unfold tupVC
  have W0 := Lib.hid ow0
  clear ow0
  clear Os0_4
  clear Os2_4
  have hd0 := Below.refl w4.heap.size w4
  have HDB := Lib.hid hb4
  have HwD : Hid (w.heap.size ≤ w4.heap.size) := hb4.size
  have DA0 := Lib.hid (fun W (h : Below w4.heap.size w4 W) => A0_4.out.below h)
  have DW0 := Lib.hid (fun W (h : Below w4.heap.size w4 W) => W0.out.below h)
  obtain ⟨_, q00, q01⟩ := A0_4.out
  simp only [Nat.zero_add] at q00 q01
  go_wp2_with fail
  refine (toGraph_any n0 _ (H0.out _ hb4) hxl0 HXR0.out).mono ?_
  rintro e w5 ⟨vx0, rfl, ox0, b5⟩
  have Z5 := Lib.hid b5.size
  have hb5 := hb4.trans (b5.mono hb4.size)
  have hd5 := hd0.trans (b5.mono hd0.size)
  have A0_5 := Lib.hid (A0_4.out.below b5)
  have W0_5 := Lib.hid (W0.out.below b5)
  clear b5 A0_4 W0 q00 q01 hd0
  obtain ⟨yx0a, yx0c, yx0u, rfl, _⟩ := id ox0.sl
  have Ox0 := Lib.hid ox0.b
  clear ox0
  have bqx0 : Below w5.heap.size w5 (w5.alloc (grObj n0 (.slice yx0a xss0.length yx0c))) := (Below.refl _ _).alloc (Nat.le_refl _) _
  have ZAx0 := Lib.hid (show (w5.alloc (grObj n0 (.slice yx0a xss0.length yx0c))).heap.size = w5.heap.size + 1 from by simp)
  have A0_x0 := Lib.hid (A0_5.out.below bqx0)
  have W0_x0 := Lib.hid (W0_5.out.below bqx0)
  have Ox0_x0 := Lib.hid (Ox0.out.below bqx0)
  have hbqx0 := hb5.trans (bqx0.mono hb5.size)
  have hdqx0 := hd5.trans (bqx0.mono hd5.size)
  clear bqx0 A0_5 W0_5 Ox0 hd5
  have X0 := Lib.hid (grBox w5 n0 (.slice yx0a xss0.length yx0c))
  go_wp2_with fail
  refine (toInt64S_any _ (H2.out _ hbqx0) (by omega)).mono ?_
  rintro e w6 ⟨vx2, rfl, ox2, b6⟩
  have Z6 := Lib.hid b6.size
  have hb6 := hbqx0.trans (b6.mono hbqx0.size)
  have hd6 := hdqx0.trans (b6.mono hdqx0.size)
  have A0_6 := Lib.hid (A0_x0.out.below b6)
  have W0_6 := Lib.hid (W0_x0.out.below b6)
  have Ox0_6 := Lib.hid (Ox0_x0.out.below b6)
  have X0_6 := Lib.hid (X0.out.below b6)
  clear b6 A0_x0 W0_x0 Ox0_x0 X0  hdqx0
  obtain ⟨yx2a, yx2c, rfl, _⟩ := id ox2.sl
  have HXL2 := Lib.hid ox2.lt
  have Ox2 := Lib.hid ox2
  clear ox2
  obtain ⟨_, x00, x01⟩ := X0_6.out
  simp only [Nat.zero_add] at x00 x01
  obtain ⟨NB, hNB⟩ : ∃ n, n = w6.heap.size := ⟨_, rfl⟩
  have HNB := Lib.hid hNB
  clear hNB
  go_wp2_with fail
  refine (ImplChangeSet_any n0 a1 a3 a4 _ Ox0_6.out.sl Ox2.out.sl).mono ?_
  rintro e w7 ⟨vg0, rfl, og0, b7⟩
  have Z7 := Lib.hid b7.size
  rw [HR.out] at og0 ⊢
  have hb7 := hb6.trans (b7.mono hb6.size)
  have hd7 := hd6.trans (b7.mono hd6.size)
  have A0_7 := Lib.hid (A0_6.out.below b7)
  have W0_7 := Lib.hid (W0_6.out.below b7)
  have Ox0_7 := Lib.hid (Ox0_6.out.below b7)
  have X0_7 := Lib.hid (X0_6.out.below b7)
  have Ox2_7 := Lib.hid (Ox2.out.below b7)
  clear b7 A0_6 W0_6 Ox0_6 X0_6 Ox2 x00 x01 hd6
  have og0 : OwnI _ _ _ r0 := og0
  obtain ⟨zg0a, zg0c, rfl, _⟩ := id og0.sl
  unfold tupVC
  rw [← HNB.out] at og0
  have HGS : Hid (∀ k, (fun k => Value.ownBlock (.slice zg0a r0.length zg0c) = some k) k → NB ≤ k ∧ k < w7.heap.size) := fun k hk => og0.lt k hk
  have G0 := Lib.hid og0
  clear og0
  go_wp2_with fail
  refine (eqInt64S_refl _ G0.out.sl W0_7.out.sl).mono ?_
  rintro e w8 ⟨rfl, b8⟩
  have Z8 := Lib.hid b8.size
  have hb8 := hb7.trans (b8.mono hb7.size)
  have hd8 := hd7.trans (b8.mono hd7.size)
  have A0_8 := Lib.hid (A0_7.out.below b8)
  have W0_8 := Lib.hid (W0_7.out.below b8)
  have Ox0_8 := Lib.hid (Ox0_7.out.below b8)
  have X0_8 := Lib.hid (X0_7.out.below b8)
  have Ox2_8 := Lib.hid (Ox2_7.out.below b8)
  have G0_8 := Lib.hid (G0.out.below b8)
  clear b8 A0_7 W0_7 Ox0_7 X0_7 Ox2_7 G0  hd7
  have hr_1 : (r1 != r1) = false := by simp
  go_upto_region 13 with (fail)
  go_cut [68] (fun sz wx => sz = .bool false ∧ Below w8.heap.size w8 wx)
  case first =>
    have hbz := (Below.refl w8.heap.size w8).drew
    obtain ⟨_, x0, x1⟩ := X0_8.out
    obtain ⟨_, q0, q1⟩ := A0_8.out
    simp only [Nat.zero_add] at x0 x1 q0 q1
    go_region_with (first
      | (go_at_call 16; (with_reducible refine (toGraph_any n0 _ (H0.out _ (hb8.trans (hbz.mono hb8.size))) hxl0 HXR0.out).mono ?_); rintro e w' ⟨vx, rfl, hv, b⟩; have sx := hv.sl; have hbz := hbz.trans (b.mono hbz.size); clear hv; obtain ⟨_, r0, r1⟩ := X0_8.out.below hbz; simp only [Nat.zero_add] at r0 r1)
      | (go_at_call 11; (with_reducible refine (eqGraph_refl n0 _ (Ox0_8.out.below hbz).sl sx).mono ?_); rintro e w' ⟨rfl, b⟩; have hbz := hbz.trans (b.mono hbz.size)))
    all_goals (go_wp2_with fail; go_meet; exact ⟨rfl, hbz⟩)
  case rest =>
    obtain ⟨rfl, hbc⟩ := hcut
    rename_i w9
    have hb9 := hb8.trans (hbc.mono hb8.size)
    have hd9 := hd8.trans (hbc.mono hd8.size)
    have A0_9 := Lib.hid (A0_8.out.below hbc)
    have W0_9 := Lib.hid (W0_8.out.below hbc)
    have Ox0_9 := Lib.hid (Ox0_8.out.below hbc)
    have X0_9 := Lib.hid (X0_8.out.below hbc)
    have Ox2_9 := Lib.hid (Ox2_8.out.below hbc)
    have G0_9 := Lib.hid (G0_8.out.below hbc)
    clear hbc A0_8 W0_8 Ox0_8 X0_8 Ox2_8 G0_8  hd8
    go_wp2_with fail
    refine (toInt64S_any _ (H2.out _ hb9) (by omega)).mono ?_
    rintro e w10 ⟨vz2, rfl, oz2, b10⟩
    have hb10 := hb9.trans (b10.mono hb9.size)
    have hd10 := hd9.trans (b10.mono hd9.size)
    have A0_10 := Lib.hid (A0_9.out.below b10)
    have W0_10 := Lib.hid (W0_9.out.below b10)
    have Ox0_10 := Lib.hid (Ox0_9.out.below b10)
    have X0_10 := Lib.hid (X0_9.out.below b10)
    have Ox2_10 := Lib.hid (Ox2_9.out.below b10)
    have G0_10 := Lib.hid (G0_9.out.below b10)
    clear b10 A0_9 W0_9 Ox0_9 X0_9 Ox2_9 G0_9  hd9
    have Oz2 := Lib.hid oz2
    clear oz2
    obtain ⟨yz2a, yz2c, rfl, _⟩ := id Oz2.out.sl
    go_wp2_with fail
    refine (eqInt64S_refl _ Ox2_10.out.sl Oz2.out.sl).mono ?_
    rintro e w11 ⟨rfl, b11⟩
    have hb11 := hb10.trans (b11.mono hb10.size)
    have hd11 := hd10.trans (b11.mono hd10.size)
    have A0_11 := Lib.hid (A0_10.out.below b11)
    have W0_11 := Lib.hid (W0_10.out.below b11)
    have Ox0_11 := Lib.hid (Ox0_10.out.below b11)
    have X0_11 := Lib.hid (X0_10.out.below b11)
    have Ox2_11 := Lib.hid (Ox2_10.out.below b11)
    have G0_11 := Lib.hid (G0_10.out.below b11)
    have Oz2_11 := Lib.hid (Oz2.out.below b11)
    clear b11 A0_10 W0_10 Ox0_10 X0_10 Ox2_10 G0_10 Oz2  hd10
    clear Oz2_11
    obtain ⟨_, x00, x01⟩ := X0_11.out
    simp only [Nat.zero_add] at x00 x01
    go_wp2_with fail
    refine (markGraph_any n0 1 w4.heap.size w5.heap.size _ (by omega) (by have := HSUM0.out; omega) Ox0_11.out).mono ?_
    rintro e w12 ⟨rfl, b12⟩
    have Z12 := Lib.hid b12.size
    have fx0 := Fs.of_mid b12
    have hd12 := hd11.trans ((fx0.below (B := w4.heap.size) (by have := Z2.out; have := Z3.out; have := Z4.out; have := Z5.out; have := ZAx0.out; have := Z6.out; have := HNB.out; have := Z7.out; have := Z8.out; have := Z12.out; omega) (fun k hk => by have := hk.1; have := Z2.out; have := Z3.out; have := Z4.out; have := Z5.out; have := ZAx0.out; have := Z6.out; have := HNB.out; have := Z7.out; have := Z8.out; have := Z12.out; omega)))
    have A0_12 := Lib.hid (DA0.out _ hd12)
    have W0_12 := Lib.hid (DW0.out _ hd12)
    have Ox2_12 := Lib.hid (show OwnI _ (w5.alloc (grObj n0 (.slice yx0a xss0.length yx0c))).heap.size _ xs2 from ownsRow_fs (Ox2_11.out) fx0 (fun k hk => by have := hk.2; have := Z2.out; have := Z3.out; have := Z4.out; have := Z5.out; have := ZAx0.out; have := Z6.out; have := HNB.out; have := Z7.out; have := Z8.out; have := Z12.out; omega))
    have G0_12 := Lib.hid (show OwnI _ NB _ r0 from ownsRow_fs (G0_11.out) fx0 (fun k hk => by have := hk.2; have := Z2.out; have := Z3.out; have := Z4.out; have := Z5.out; have := ZAx0.out; have := Z6.out; have := HNB.out; have := Z7.out; have := Z8.out; have := Z12.out; omega))
    have hb12 := HDB.out.trans (hd12.mono HwD.out)
    clear b12 fx0 hb11 hd11 A0_11 W0_11 Ox0_11 X0_11 Ox2_11 G0_11 x00 x01
    go_wp2_with fail
    refine (markInt64S_any (1 + sumL xss0) _ _ (by omega) (by have := HSUM0.out; omega) Ox2_12.out).mono ?_
    rintro e w13 ⟨rfl, om2, b13⟩
    have Z13 := Lib.hid b13.size
    clear om2
    have fx2 : Fs (fun k => (w5.alloc (grObj n0 (.slice yx0a xss0.length yx0c))).heap.size ≤ k ∧ k < w6.heap.size) _ _ := Fs.of_grown b13 (fun g hg => HXL2.out g hg)
    have hd13 := hd12.trans ((fx2.below (B := w4.heap.size) (by have := Z2.out; have := Z3.out; have := Z4.out; have := Z5.out; have := ZAx0.out; have := Z6.out; have := HNB.out; have := Z7.out; have := Z8.out; have := Z12.out; have := Z13.out; omega) (fun k hk => by have := hk.1; have := Z2.out; have := Z3.out; have := Z4.out; have := Z5.out; have := ZAx0.out; have := Z6.out; have := HNB.out; have := Z7.out; have := Z8.out; have := Z12.out; have := Z13.out; omega)))
    have A0_13 := Lib.hid (DA0.out _ hd13)
    have W0_13 := Lib.hid (DW0.out _ hd13)
    have G0_13 := Lib.hid (show OwnI _ NB _ r0 from ownsRow_fs (G0_12.out) fx2 (fun k hk => by have := hk.2; have := Z2.out; have := Z3.out; have := Z4.out; have := Z5.out; have := ZAx0.out; have := Z6.out; have := HNB.out; have := Z7.out; have := Z8.out; have := Z12.out; have := Z13.out; omega))
    have hb13 := HDB.out.trans (hd13.mono HwD.out)
    clear b13 fx2 hb12 hd12 A0_12 W0_12 Ox2_12 G0_12 
    have hkn : ¬ ((1 + sumL xss0) + (xs2.length : Int)) < 0 := by omega
    go_wp2_with fail
    refine (eqInt64S_refl _ G0_13.out.sl W0_13.out.sl).mono ?_
    rintro e w14 ⟨rfl, b14⟩
    have Z14 := Lib.hid b14.size
    have hb14 := hb13.trans (b14.mono hb13.size)
    have hd14 := hd13.trans (b14.mono hd13.size)
    have A0_14 := Lib.hid (A0_13.out.below b14)
    have W0_14 := Lib.hid (W0_13.out.below b14)
    have G0_14 := Lib.hid (G0_13.out.below b14)
    clear b14 A0_13 W0_13 G0_13  hd13
    go_wp2_with fail
    refine (markInt64S_any 1 _ _ (by omega) (by have := HLEN.out; omega) G0_14.out).mono ?_
    rintro e w15 ⟨rfl, og1, b15⟩
    have Z15 := Lib.hid b15.size
    have fg : Fs (fun k => Value.ownBlock (.slice zg0a r0.length zg0c) = some k) _ _ := Fs.of_grown b15 (fun g hg => hg)
    have hd15 := hd14.trans (fg.below (B := w4.heap.size) (by have := Z2.out; have := Z3.out; have := Z4.out; have := Z5.out; have := ZAx0.out; have := Z6.out; have := HNB.out; have := Z7.out; have := Z8.out; have := Z12.out; have := Z13.out; have := Z14.out; have := Z15.out; omega) (fun k hk => by have := (HGS.out k hk).1; have := Z2.out; have := Z3.out; have := Z4.out; have := Z5.out; have := ZAx0.out; have := Z6.out; have := HNB.out; have := Z7.out; have := Z8.out; have := Z12.out; have := Z13.out; have := Z14.out; have := Z15.out; omega))
    have A0_15 := Lib.hid (DA0.out _ hd15)
    have W0_15 := Lib.hid (DW0.out _ hd15)
    have hb15 := HDB.out.trans (hd15.mono HwD.out)
    clear b15 fg hb14 hd14 A0_14 W0_14 G0_14 
    have G1 := Lib.hid og1
    clear og1
    have hq0 : ¬ (1 + (r0.length : Int) : Int) < 0 := by omega
    have hq1 : ((1 + (r0.length : Int) : Int) != (1 + (r0.length : Int))) = false := by simp
    go_wp2_with fail
    refine (heldInt64S_any 1 _ _ (by omega) (by have := HLEN.out; omega) G1.out.sl).mono ?_
    rintro e w16 ⟨rfl, b16⟩
    have Z16 := Lib.hid b16.size
    have hb16 := hb15.trans (b16.mono hb15.size)
    have hd16 := hd15.trans (b16.mono hd15.size)
    have A0_16 := Lib.hid (A0_15.out.below b16)
    have W0_16 := Lib.hid (W0_15.out.below b16)
    have G1_16 := Lib.hid (G1.out.below b16)
    clear b16 A0_15 W0_15 G1  hd15
    obtain ⟨_, q00, q01⟩ := A0_16.out
    simp only [Nat.zero_add] at q00 q01
    go_wp2_with fail
    refine (toGraph_any n0 _ (H0.out _ hb16) hxl0 HXR0.out).mono ?_
    rintro e w17 ⟨vy0, rfl, oy0, b17⟩
    have Z17 := Lib.hid b17.size
    have hb17 := hb16.trans (b17.mono hb16.size)
    have hd17 := hd16.trans (b17.mono hd16.size)
    have A0_17 := Lib.hid (A0_16.out.below b17)
    have W0_17 := Lib.hid (W0_16.out.below b17)
    have G1_17 := Lib.hid (G1_16.out.below b17)
    clear b17 A0_16 W0_16 G1_16 q00 q01 hd16
    obtain ⟨yy0a, yy0c, yy0u, rfl, _⟩ := id oy0.sl
    have Oy0 := Lib.hid oy0
    clear oy0
    go_wp2_with fail
    refine (toInt64S_any _ (H2.out _ hb17) (by omega)).mono ?_
    rintro e w18 ⟨vy2, rfl, oy2, b18⟩
    have Z18 := Lib.hid b18.size
    have hb18 := hb17.trans (b18.mono hb17.size)
    have hd18 := hd17.trans (b18.mono hd17.size)
    have A0_18 := Lib.hid (A0_17.out.below b18)
    have W0_18 := Lib.hid (W0_17.out.below b18)
    have G1_18 := Lib.hid (G1_17.out.below b18)
    have Oy0_18 := Lib.hid (Oy0.out.below b18)
    clear b18 A0_17 W0_17 G1_17 Oy0  hd17
    obtain ⟨yy2a, yy2c, rfl, _⟩ := id oy2.sl
    have Oy2 := Lib.hid oy2
    clear oy2
    go_wp2_with fail
    refine (ImplChangeSet_any n0 a1 a3 a4 _ Oy0_18.out.sl Oy2.out.sl).mono ?_
    rintro e w19 ⟨vh0, rfl, oh0, b19⟩
    have Z19 := Lib.hid b19.size
    rw [HR.out] at oh0 ⊢
    have hb19 := hb18.trans (b19.mono hb18.size)
    have hd19 := hd18.trans (b19.mono hd18.size)
    have A0_19 := Lib.hid (A0_18.out.below b19)
    have W0_19 := Lib.hid (W0_18.out.below b19)
    have G1_19 := Lib.hid (G1_18.out.below b19)
    have Oy0_19 := Lib.hid (Oy0_18.out.below b19)
    have Oy2_19 := Lib.hid (Oy2.out.below b19)
    clear b19 A0_18 W0_18 G1_18 Oy0_18 Oy2  hd18
    have oh0 : OwnI _ _ _ r0 := oh0
    obtain ⟨zh0a, zh0c, rfl, _⟩ := id oh0.sl
    unfold tupVC
    have HH := Lib.hid oh0
    clear oh0
    go_wp2_with fail
    refine (eqInt64S_refl _ HH.out.sl W0_19.out.sl).mono ?_
    rintro e w20 ⟨rfl, b20⟩
    have Z20 := Lib.hid b20.size
    have hb20 := hb19.trans (b20.mono hb19.size)
    have hd20 := hd19.trans (b20.mono hd19.size)
    have A0_20 := Lib.hid (A0_19.out.below b20)
    have W0_20 := Lib.hid (W0_19.out.below b20)
    have G1_20 := Lib.hid (G1_19.out.below b20)
    have Oy0_20 := Lib.hid (Oy0_19.out.below b20)
    have Oy2_20 := Lib.hid (Oy2_19.out.below b20)
    have HH_20 := Lib.hid (HH.out.below b20)
    clear b20 A0_19 W0_19 G1_19 Oy0_19 Oy2_19 HH  hd19
    go_wp2_with fail
    refine (heldInt64S_any 1 _ _ (by omega) (by have := HLEN.out; omega) G1_20.out.sl).mono ?_
    rintro e w21 ⟨rfl, b21⟩
    have Z21 := Lib.hid b21.size
    have hb21 := hb20.trans (b21.mono hb20.size)
    have hd21 := hd20.trans (b21.mono hd20.size)
    have A0_21 := Lib.hid (A0_20.out.below b21)
    have W0_21 := Lib.hid (W0_20.out.below b21)
    have G1_21 := Lib.hid (G1_20.out.below b21)
    have Oy0_21 := Lib.hid (Oy0_20.out.below b21)
    have Oy2_21 := Lib.hid (Oy2_20.out.below b21)
    have HH_21 := Lib.hid (HH_20.out.below b21)
    clear b21 A0_20 W0_20 G1_20 Oy0_20 Oy2_20 HH_20  hd20
    go_wp2
    go_ret
    exact ⟨rfl, hb21⟩
end Go.Proofs.Ytenemohjmemoiaa
namespace Go.Proofs.Ytenemohjmemoiaa
open Go.RowKit
theorem and_tt {a b : Bool} (ha : a = true) (hb : b = true) : (a && b) = true := by rw [ha, hb]; rfl
theorem fLaid : laidOutB Try.checked.prog = true := by kernel_rfl
theorem fMaps : mapsRowed Try.checked.prog = true := by kernel_rfl
theorem fKeys : (true == Try.checked.prog.plainKeys) = true := by kernel_rfl
theorem fHeard : Try.checked.prog.stopsHeard = true := by kernel_rfl
theorem fEnter : Try.checked.prog.mayEnter = true := by kernel_rfl
theorem fFinal : (false == Try.checked.prog.liftsFinal) = true := by kernel_rfl
theorem fMake : (Try.checked.prog.make == some Make.cut) = true := by kernel_rfl
end Go.Proofs.Ytenemohjmemoiaa
