/-
  ChangeSet: the words and the reference's pieces. With it: slices.Sort over a rising list with one number behind it. ChangeSet: the pieces of the program.
-/
import Derived.Test.YtpmabnohdabbdaaZRowStepPaths18
import Derived.RegionTactic
import Derived.BigRegion
import Derived.Laws.Bits64
import Derived.Test.YtpmabnohdabbdaaZRowStepPaths12
import Derived.Test.YtpmabnohdabbdaaZRowStepPaths6
import Derived.Test.YtpmabnohdabbdaaZRowStepPaths10
import Derived.Test.YtpmabnohdabbdaaZRowStepPaths11
import Derived.Test.YtpmabnohdabbdaaZRowStepPaths9
set_option linter.unusedVariables false
set_option linter.unusedSimpArgs false
namespace Go.Proofs.Ytpmabnohdabbdaa
open Go.RowKit Go.Sort
end Go.Proofs.Ytpmabnohdabbdaa
namespace Go.Proofs.Ytpmabnohdabbdaa
open Go.RowKit Go.Sort
def weightC (n : Int) (es : List (List Int)) (wt : Int) (set : List Int) : Int := if graphOk n es = true then (if (inR wt 1 60 && riseN 0 (IntKind.i64.wrap (n - 1)) set set.length) = true then 0 else 2) else 1
end Go.Proofs.Ytpmabnohdabbdaa
namespace Go.Proofs.Ytpmabnohdabbdaa
open Go.RowKit Go.Sort
def chgC (n : Int) (es : List (List Int)) (wt : Int) (set : List Int) (node draw : Int) : Int := askedC n es 1 ((riseN 0 (IntKind.i64.wrap (n - 1)) set set.length && inR node 0 (IntKind.i64.wrap (n - 1)) && inR draw 0 wt) && inR wt 1 60)
def chgR (n : Int) (es : List (List Int)) (wt : Int) (set : List Int) (node draw : Int) : List Int × Int :=
  if chgC n es wt set node draw = 0 then (if indepB es set = true then (chgL es set node draw, 0) else ([], 4)) else ([], chgC n es wt set node draw)
theorem chgC_ok {n wt node draw : Int} {es : List (List Int)} {set : List Int} (h : chgC n es wt set node draw = 0) : graphOk n es = true ∧ riseN 0 (IntKind.i64.wrap (n - 1)) set set.length = true ∧ inR node 0 (IntKind.i64.wrap (n - 1)) = true ∧ inR draw 0 wt = true ∧ inR wt 1 60 = true := by
  obtain ⟨h1, _, _, h2⟩ := askedC_ok h
  rw [Bool.and_eq_true, Bool.and_eq_true, Bool.and_eq_true] at h2
  exact ⟨h1, h2.1.1.1, h2.1.1.2, h2.1.2, h2.2⟩
theorem chgC_code {n wt node draw : Int} {es : List (List Int)} {set : List Int} (h : weightC n es wt set ≠ 0) : chgC n es wt set node draw = weightC n es wt set := by
  unfold chgC weightC askedC at *
  cases hg : graphOk n es
  · rfl
  · rw [hg] at h
    simp only [if_true] at h ⊢
    have hi : inR 1 1 4 = true := rfl
    rw [hi]
    generalize riseN 0 (IntKind.i64.wrap (n - 1)) set set.length = r at h ⊢
    generalize inR wt 1 60 = p at h ⊢
    cases r <;> cases p <;> simp at h ⊢
theorem chgC_node {n wt node draw : Int} {es : List (List Int)} {set : List Int} (h : weightC n es wt set = 0) : chgC n es wt set node draw = if (inR node 0 (IntKind.i64.wrap (n - 1)) && inR draw 0 wt) = true then 0 else 2 := by
  unfold chgC weightC askedC at *
  cases hg : graphOk n es
  · rw [hg] at h; simp at h
  · rw [hg] at h
    simp only [if_true] at h ⊢
    have hi : inR 1 1 4 = true := rfl
    rw [hi]
    generalize riseN 0 (IntKind.i64.wrap (n - 1)) set set.length = r at h ⊢
    generalize inR wt 1 60 = p at h ⊢
    generalize inR node 0 (IntKind.i64.wrap (n - 1)) = a
    generalize inR draw 0 wt = b
    cases r <;> cases p <;> simp at h
    cases a <;> cases b <;> simp
theorem weightC_ok {n wt : Int} {es : List (List Int)} {set : List Int} (h : weightC n es wt set = 0) : graphOk n es = true ∧ inR wt 1 60 = true ∧ riseN 0 (IntKind.i64.wrap (n - 1)) set set.length = true := by
  unfold weightC at h
  split at h
  · rename_i hg
    split at h
    · rename_i h2; rw [Bool.and_eq_true] at h2; exact ⟨hg, h2.1, h2.2⟩
    · omega
  · omega
theorem chgR_len (n : Int) (es : List (List Int)) (wt : Int) (set : List Int) (node draw : Int) : (chgR n es wt set node draw).1.length ≤ 6 := by
  unfold chgR
  split
  · rename_i h
    obtain ⟨hg, hr, _⟩ := chgC_ok h
    obtain ⟨m, rfl, h1, h5, _⟩ := graphOk_all hg
    rw [IntWalk.i64_in _ (by omega)] at hr
    have h2 := rise_len hr
    have h3 : (dropN set node).length ≤ set.length := List.length_filter_le _ _
    have h4 := putL_len node (dropN set node)
    split
    · unfold chgL
      dsimp only
      split
      · omega
      · split <;> omega
    · simp
  · simp
set_option maxHeartbeats 2000000 in
theorem l00Put_any {u : Value} {xs : List Int} (n : Int) (w : World) (ha : SlI w u xs) (hl : xs.length ≤ 1000) :
    Calls Try.prog 202 #[u, .int .i64 n] w fun e w' => ∃ v, e = .returned v ∧ OwnI w' w.heap.size v (putL n xs) ∧ Below w.heap.size w w' := by
  have HA := Lib.hid (fun W (h : Below w.heap.size w W) => ha.below h)
  obtain ⟨a, ca, rfl, _, hca, _⟩ := ha
  unfold maxLen at hca
  have own0 := OwnI.empty w (base := w.heap.size) (Nat.le_refl _)
  have b0 : Below w.heap.size w (w.alloc (.cells #[] 2)) := (Below.refl _ _).alloc (Nat.le_refl _) _
  go_enter Try.func202, Try.ntmps202
  go_wp2
  go_loopw [5, 6, 7] (fun v d i wr => ∃ (k : Nat) (D : Bool), k ≤ xs.length ∧ i = .int .i64 k ∧ d = .bool D ∧ OwnI wr w.heap.size v (if D = true then putL n (xs.take k) else xs.take k) ∧ Hid (D = false → ∀ y ∈ xs.take k, y < n) ∧ Hid (D = true → ∃ y ∈ xs.take k, n ≤ y) ∧ Below w.heap.size w wr) (fun _ _ i _ => xs.length - (intOf i).toNat)
  case atStart => exact ⟨0, false, Nat.zero_le _, rfl, rfl, by simpa using own0, Lib.hid (fun _ => by simp), Lib.hid (fun h => by simp at h), b0⟩
  case round =>
    clear own0 b0
    obtain ⟨k, D, hk, rfl, rfl, hown, hno, hyes, hbr⟩ := hrel
    by_cases hlt : k < xs.length
    · have i1 : (k : Int) < (xs.length : Int) := by omega
      have ik0 : (0 : Int) ≤ (k : Int) := by omega
      obtain ⟨_, _, he', _, _, vr⟩ := HA.out _ hbr
      simp only [Value.slice.injEq] at he'
      obtain ⟨rfl, _, rfl⟩ := he'
      obtain ⟨cb, co, rfl, gk⟩ := vr.one (i64s_get hlt)
      have htk : xs.take (k + 1) = xs.take k ++ [xs[k]] := List.take_succ_eq_append_getElem hlt
      generalize xs[k] = x at gk htk
      have HTK := Lib.hid htk
      have htl : (xs.take k).length ≤ 1000 := by rw [List.length_take]; omega
      have hpl := putL_len n (xs.take k)
      have hsz := hbr.size
      have HB := Lib.hid hbr
      clear htk hbr vr
      cases D
      · have hown : OwnI wr w.heap.size _ (xs.take k) := hown
        have hln : (xs.take k).length < 16777216 := by omega
        have HNO := Lib.hid (hno.out rfl)
        clear hno hyes
        by_cases hge : n ≤ x
        · by_cases hgt : n < x
          · go_wp2_with (at_builtin; refine append_i64 _ n _ _ rfl rfl rfl hown rfl hln hsz ?_)
            intro v' w1 o1 b1 z1
            have hb1 := (HB.out.alloc hsz _).trans b1
            obtain ⟨_, _, he', _, _, vr⟩ := HA.out _ hb1
            simp only [Value.slice.injEq] at he'
            obtain ⟨he1, _, rfl⟩ := he'
            have hsz1 := hb1.size
            have gk1 : w1.cell? ⟨cb, co + k, none⟩ = some (.int .i64 x) := by
              obtain ⟨cb2, co2, he2, g2⟩ := vr.one (i64s_get hlt)
              rw [← he1] at he2
              simp only [Option.some.injEq, Addr.mk.injEq] at he2
              obtain ⟨rfl, rfl, _⟩ := he2
              rw [g2]
              have h3 := HTK.out
              rw [List.take_succ_eq_append_getElem hlt, List.append_cancel_left_eq] at h3
              simp only [List.cons.injEq, and_true] at h3
              rw [h3]
            have hln1 : (xs.take k ++ [n]).length < 16777216 := by simp; omega
            clear b1 vr he1 gk
            go_wp2_with (at_builtin; refine append_i64 _ x _ _ rfl rfl rfl o1 rfl hln1 hsz1 ?_)
            intro v2 w2 o2 b2 z2
            have hb2 := (hb1.alloc hsz1 _).trans b2
            clear b2
            go_wp2
            go_roundw
            case rel => exact ⟨k + 1, true, by omega, by go_num, rfl, by rw [HTK.out, if_pos rfl, putL_gt HNO.out hgt]; simpa using o2, Lib.hid (fun h => by simp at h), Lib.hid (fun _ => ⟨x, by rw [HTK.out]; simp, hge⟩), hb2⟩
            case measure => simp [intOf]; omega
          · obtain rfl : x = n := by omega
            go_wp2_with (at_builtin; refine append_i64 _ x _ _ rfl rfl rfl hown rfl hln hsz ?_)
            intro v2 w2 o2 b2 z2
            have hb2 := (HB.out.alloc hsz _).trans b2
            clear b2
            go_wp2
            go_roundw
            case rel => exact ⟨k + 1, true, by omega, by go_num, rfl, by rw [HTK.out, if_pos rfl, putL_eq HNO.out]; exact o2, Lib.hid (fun h => by simp at h), Lib.hid (fun _ => ⟨x, by rw [HTK.out]; simp, hge⟩), hb2⟩
            case measure => simp [intOf]; omega
        · have hlt2 : x < n := by omega
          go_wp2_with (at_builtin; refine append_i64 _ x _ _ rfl rfl rfl hown rfl hln hsz ?_)
          intro v2 w2 o2 b2 z2
          have hb2 := (HB.out.alloc hsz _).trans b2
          clear b2
          go_wp2
          go_roundw
          case rel => exact ⟨k + 1, false, by omega, by go_num, rfl, by rw [HTK.out]; simpa using o2, Lib.hid (fun _ y hy => by
            rw [HTK.out, List.mem_append, List.mem_singleton] at hy
            rcases hy with hy | rfl
            · exact HNO.out y hy
            · exact hlt2), Lib.hid (fun h => by simp at h), hb2⟩
          case measure => simp [intOf]; omega
      · have hown : OwnI wr w.heap.size _ (putL n (xs.take k)) := hown
        have hln : (putL n (xs.take k)).length < 16777216 := by omega
        have HYES := Lib.hid (hyes.out rfl)
        clear hno hyes
        go_wp2_with (at_builtin; refine append_i64 _ x _ _ rfl rfl rfl hown rfl hln hsz ?_)
        intro v2 w2 o2 b2 z2
        have hb2 := (HB.out.alloc hsz _).trans b2
        clear b2
        go_wp2
        go_roundw
        case rel => exact ⟨k + 1, true, by omega, by go_num, rfl, by rw [HTK.out, if_pos rfl, putL_more HYES.out]; exact o2, Lib.hid (fun h => by simp at h), Lib.hid (fun _ => by
          obtain ⟨y, hy, hn⟩ := HYES.out
          exact ⟨y, by rw [HTK.out]; simp [hy], hn⟩), hb2⟩
        case measure => simp [intOf]; omega
    · obtain rfl : k = xs.length := by omega
      have hsz := hbr.size
      cases D
      · have hown : OwnI wr w.heap.size _ (xs.take xs.length) := hown
        rw [List.take_length] at hown
        have HNO := Lib.hid (hno.out rfl)
        have hln : xs.length < 16777216 := by omega
        clear hno hyes
        go_wp2_with (at_builtin; refine append_i64 _ n _ _ rfl rfl rfl hown rfl hln hsz ?_)
        intro v2 w2 o2 b2 z2
        have hb2 := (hbr.alloc hsz _).trans b2
        clear b2
        go_wp2
        go_ret
        exact ⟨_, rfl, by rw [putL_low (by have := HNO.out; rw [List.take_length] at this; exact this)]; exact o2, hb2⟩
      · have hown2 : OwnI wr w.heap.size _ (putL n (xs.take xs.length)) := hown
        rw [List.take_length] at hown2
        clear hno hyes hown
        go_wp2
        go_ret
        exact ⟨_, rfl, hown2, hbr⟩
theorem dropN_yes {set : List Int} {node : Int} {k : Nat} (h : k < set.length) (hn : set[k] = node) : dropN (set.take (k + 1)) node = dropN (set.take k) node := by
  unfold dropN; rw [List.take_succ_eq_append_getElem h, List.filter_append]; simp [hn]
theorem dropN_no {set : List Int} {node : Int} {k : Nat} (h : k < set.length) (hn : ¬ set[k] = node) : dropN (set.take (k + 1)) node = dropN (set.take k) node ++ [set[k]] := by
  unfold dropN; rw [List.take_succ_eq_append_getElem h, List.filter_append]; simp [hn]
end Go.Proofs.Ytpmabnohdabbdaa
