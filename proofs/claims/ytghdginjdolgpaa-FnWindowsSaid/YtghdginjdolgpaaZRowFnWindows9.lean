/-
  FnWindows: plain part. With it: StepByDraw and RunByDraws, both sides, for valid arguments.
-/
import Derived.Test.YtghdginjdolgpaaZRowFnWindows5
import Derived.Test.YtghdginjdolgpaaZRowFnWindows7
import Derived.Test.YtghdginjdolgpaaZRowFnWindows4
import Derived.Test.YtghdginjdolgpaaZRowFnWindows6
set_option linter.unusedVariables false
set_option linter.unusedSimpArgs false
namespace Go.Proofs.Ytghdginjdolgpaa
open Go.RowKit Go.Sort
theorem OwnI.lit1 (w : World) {base : Nat} (hb : base ≤ w.heap.size) (x : Int) : OwnI (w.alloc (.cells #[.int .i64 x] 2)) base (.slice (some ⟨w.heap.size, 0, none⟩) 1 1) [x] :=
  World.ownsRow_lit (base := base) (e := 2) (size := 1) w #[.int .i64 x] 1 hb (by simp [maxLen]) (by simp)
theorem isState_c {u : Value} (st t x : Int) (w : World) (h1 : 1 ≤ st) (h2 : st ≤ 1000) :
    Calls Try.prog 44 #[.agg #[.int .i64 st, .int .i64 t, u], .int .i64 x] w fun e w' => e = .returned (.bool (inR x 0 (st - 1))) ∧ Below w.heap.size w w' := by
  go_enter Try.func44, Try.ntmps44
  go_wp2_with (go_at_call 47; refine (inRange_any _ _ _ _).mono ?_; rintro e w' ⟨rfl, rfl⟩)
  go_ret
  exact ⟨rfl, (Below.refl _ _).alloc (Nat.le_refl _) _⟩
theorem step_appJ {ops : Array Oper} {o : Oper} {a : Act} {K : Act → World → Prop} {Q : Exit → Act → World → Prop} {E : Prop} {w w0 w1 : World} (hg : o.guard = none) (s x : Operand)
    (ho : o.op = .call { callee := .builtin .append, args := #[s, x], argTypes := #[28, 28] })
    {g : Nat} {v : Value} {xs : List Int} {y : Int} (hs : a.eval s = v) (hown : OwnI w1 w0.heap.size v xs) (h01 : Below w0.heap.size w0 w1) (h1w : Below w1.heap.size w1 w) (hx : a.eval x = .slice (some ⟨g, 0, none⟩) 1 1) (hc : w.cell? ⟨g, 0, none⟩ = some (.int .i64 y)) (hlen : xs.length < 16777216)
    (h : ∀ v' w', OwnI w' w0.heap.size v' (xs ++ [y]) → Below w0.heap.size w0 w' → K (a.put o.dst v') w') : if Region.wanted o (yielded ops a.tmps) = true then Oper.wp Try.prog o a w K Q else E := by
  have h0w := h01.trans (h1w.mono h01.size)
  have hown' := hown.below h1w
  exact stepAppI w s x hg ho hs hown' hx hc hlen h0w.size (fun v' w' k1 k2 => h v' w' k1 (h0w.trans (hown'.grown k2 h0w.size)))

set_option maxHeartbeats 400000 in
theorem runClosure_any {v : Value} {xss : List (List Int)} (b : Nat) (s t d : Int) (w : World) (hc : ChainAt w b 0 s t v) (ha : SlII w v xss) (ht : 1 ≤ t) (ht2 : t ≤ 60) :
    Calls Try.prog 45 #[.int .i64 d, .pointer (some ⟨b, 0, none⟩)] w fun e w' => e = .returned (.bool (!inR d 0 (t - 1))) ∧ Below w.heap.size w w' := by
  obtain ⟨a, ca, us, rfl, _⟩ := id ha
  obtain ⟨c00, c0, c1, c2⟩ := hc
  simp only [Nat.zero_add] at c0 c1 c2
  go_enter Try.func45, Try.ntmps45
  go_wp2_with fail
  refine (isDraw_any s t d _ ha ht ht2).mono ?_
  rintro e w2 ⟨rfl, b2⟩
  go_wp2
  go_ret
  exact ⟨rfl, b2⟩
theorem drawsB_any {t : Int} {ds : List Int} (h : DrawsB t ds) : (ds.any fun d => !inR d 0 (t - 1)) = false := by
  rw [List.any_eq_false]
  intro d hd
  have := h d hd
  rw [show inR d 0 (t - 1) = true from inR_iff.2 (by omega)]
  simp
/-- a run's state, as a number -/
theorem run_at {s t : Int} {xss : List (List Int)} (h : chainOk s t xss = true) {k : Nat} (hk : k < xss.length) {ds : List Int} (hd : DrawsB t ds) {j : Nat} (hj : j ≤ ds.length) : ∃ y : Nat, y < xss.length ∧ (runN xss k ds j).getD j 0 = (y : Int) := by
  have hl : j < (runN xss (k : Int) ds j).length := by rw [runN_len]; omega
  have := runN_in h (x := (k : Int)) ⟨by omega, by omega⟩ hd j hj _ (List.getElem_mem hl)
  refine ⟨(runN xss (k : Int) ds j)[j].toNat, by omega, ?_⟩
  rw [gD_at hl]; omega
set_option maxRecDepth 100000 in
set_option maxHeartbeats 4000000 in
theorem ImplRunByDraws_any {v dv : Value} {xss : List (List Int)} {ds : List Int} (s t : Int) (k : Nat) (w : World) (ha : SlII w v xss) (hd : SlI w dv ds) (hv : chainOk s t xss = true) (hk : k < xss.length) (hdb : DrawsB t ds) (hl : ds.length ≤ 200) :
    Calls Try.prog 12 #[.agg #[.int .i64 s, .int .i64 t, v], .int .i64 k, dv] w fun e w' => ∃ u, e = .returned (.tuple #[u, .int .i64 0]) ∧ OwnI w' w.heap.size u (runN xss k ds ds.length) ∧ Below w.heap.size w w' := by
  have hmf : ∀ (fn : Fn) (first cap : Array Value) (w : World), (Instr.makeFunc fn first cap).run Try.prog w = .ok (.func fn first cap) w := fun _ _ _ _ => rfl
  have HA := Lib.hid (fun W (h : Below w.heap.size w W) => ha.below h)
  have HDR := Lib.hid (fun W (h : Below w.heap.size w W) => hd.below h)
  obtain ⟨a, ca, us, rfl, _, _, _, _, _⟩ := ha
  obtain ⟨da, dc, rfl, dl, dm, _⟩ := hd
  unfold maxLen at dm
  obtain ⟨⟨hs1, hs2⟩, ⟨ht1, ht2⟩, hls, _⟩ := chainOk_parts0 hv
  have bx := chBelow w s t (.slice a xss.length ca)
  have X := Lib.hid (chBox w s t (.slice a xss.length ca))
  have E1 := Lib.hid (show inR (k : Int) 0 (s - 1) = true from inR_iff.2 (by omega))
  have HAN := Lib.hid (drawsB_any hdb)
  have HV := Lib.hid hv
  have HDB := Lib.hid hdb
  have RA := Lib.hid (fun j (hj : j ≤ ds.length) => run_at hv hk hdb hj)
  clear hv hdb hls
  go_enter Try.func12, Try.ntmps12
  go_wp2_with fail
  refine (ValidChain_any s t _ (HA.out _ bx)).mono ?_
  rintro e w1 ⟨rfl, b1⟩
  rw [HV.out]
  have hb1 := bx.trans (b1.mono bx.size)
  have X1 := Lib.hid (X.out.below b1)
  obtain ⟨c00, c0, c1, c2⟩ := X1.out
  simp only [Nat.zero_add] at c0 c1 c2
  clear b1
  go_wp2_with fail
  refine (isState_c s t k _ hs1 (by omega)).mono ?_
  rintro e w2 ⟨rfl, b2⟩
  rw [E1.out]
  have hb2 := hb1.trans (b2.mono hb1.size)
  have X2 := Lib.hid (X1.out.below b2)
  clear c00 c0 c1 c2 b2
  go_wp2_with fail
  refine (ContainsFuncRun_any _ (fun d => !inR d 0 (t - 1)) _ (HDR.out _ hb2) (fun W x hW _ => runClosure_any w.heap.size s t x W (X2.out.below hW) (HA.out _ (hb2.trans (hW.mono hb2.size))) ht1 ht2)).mono ?_
  rintro e w3 ⟨rfl, b3⟩
  rw [HAN.out]
  have hb3 := hb2.trans (b3.mono hb2.size)
  have X3 := Lib.hid (X2.out.below b3)
  have own1 := OwnI.lit1 w3 (Nat.le_refl _) (k : Int)
  have O1 := Lib.hid own1
  clear b3 own1
  go_wp2
  go_loopw [8, 10, 32] (fun u _ i wr => ∃ j : Nat, j ≤ ds.length ∧ i = .int .i64 j ∧ OwnI wr w3.heap.size u (runN xss k ds j) ∧ Below w3.heap.size w3 wr) (fun _ _ i _ => ds.length - (intOf i).toNat)
  case atStart => exact ⟨0, Nat.zero_le _, rfl, O1.out, (Below.refl _ _).alloc (Nat.le_refl _) _⟩
  case round =>
    obtain ⟨j, hj, rfl, hown, hbr⟩ := hrel
    have hbw := hb3.trans (hbr.mono hb3.size)
    by_cases hlt : j < ds.length
    · obtain ⟨_, _, he, _, _, rd⟩ := HDR.out _ hbw
      simp only [Value.slice.injEq] at he
      obtain ⟨rfl, _, rfl⟩ := he
      obtain ⟨db, doff, rfl, gd⟩ := rd.one (i64s_get hlt)
      have hdd := HDB.out _ (List.getElem_mem hlt)
      obtain ⟨y, hy, hyv⟩ := RA.out j hj
      have hnx : runN xss k ds (j + 1) = runN xss k ds j ++ [nxt xss ds[j] y] := by
        conv => lhs; unfold runN
        rw [hyv, gD_at hlt]
      have hll := runN_len xss (k : Int) ds j
      generalize runN xss (k : Int) ds j = l at hown hyv hnx hll
      generalize ds[j] = d at gd hdd hnx
      rcases hown.forms with ⟨_, h0⟩ | ⟨g, gc, rfl, hg, hg1, hgc, hgc2⟩
      · rw [h0] at hll; simp at hll
      have hjl : j < l.length := by omega
      have gl := hown.cell hjl
      rw [gD_at hjl] at hyv
      rw [hyv] at gl
      unfold maxLen at hgc2
      obtain ⟨m, hm⟩ : ∃ m, l.length = m := ⟨_, rfl⟩
      rw [hm] at hown hgc ⊢
      have HO := Lib.hid hown
      have HM := Lib.hid hm
      have hmj : m = j + 1 := by omega
      have r1 : IntKind.i64.wrap ((m : Int) - 1) = (j : Int) := by rw [IntWalk.i64_in _ (by omega)]; omega
      have i0 : (0 : Int) ≤ (j : Int) := by omega
      have i1 : (j : Int) < (m : Int) := by omega
      have i2 : (j : Int) < (ds.length : Int) := by omega
      have HLM := Lib.hid (show l.length < 16777216 by omega)
      have HNX := Lib.hid hnx
      have HBR := Lib.hid hbr
      have HBW := Lib.hid hbw
      have HDD := Lib.hid hdd
      obtain ⟨c00, c0, c1, c2⟩ := X3.out.below hbr
      simp only [Nat.zero_add] at c0 c1 c2
      have k0 := fun d os => cell_regrown c0 d os
      have k1 := fun d os => cell_regrown c1 d os
      have k2 := fun d os => cell_regrown c2 d os
      have k3 := fun d os => cell_regrown gl d os
      clear hown hm hmj hll hyv hnx hdd rd hbr hbw c00
      go_wp2_with fail
      have hlm := HLM.out
      go_region_law (first
        | (refine step_appJ (w0 := w3) (w1 := w1) rfl (.tmp 36) (.tmp 46) rfl (y := nxt xss d y) rfl o1 c1 (by (repeat (first | exact Below.refl _ _ | refine Below.drew ?_ | refine Below.alloc ?_ (by simp) _))) rfl (by first | (simp [go_sem]; done) | fail) hlm ?_; intro v5 w5 o5 hb5; rw [← HNX.out] at o5)
        | (go_simp; go_at_call 46; refine (stepByDraw_b s t d y _ ((HA.out _ HBW.out).below (by (repeat (first | exact Below.refl _ _ | refine Below.drew ?_ | refine Below.alloc ?_ (by simp) _)))) HV.out HDD.out hy).mono ?_; rintro e w1 ⟨rfl, b1⟩; have bw1 := below_of (a := wr) (by (repeat (first | exact Below.refl _ _ | refine Below.drew ?_ | refine Below.alloc ?_ (by simp) _))) b1; have o1 := HO.out.below bw1; have c1 := HBR.out.trans (bw1.mono HBR.out.size))
        | fail "no arm")
      all_goals
        go_wp2
        go_roundw
        case rel => exact ⟨j + 1, by omega, by go_num, o5, hb5⟩
        case measure => simp [intOf]; omega
    · obtain rfl : j = ds.length := by omega
      go_wp2
      go_ret2
      exact ⟨_, rfl, hown.lower hb3.size, hbw⟩
end Go.Proofs.Ytghdginjdolgpaa
namespace Go.Proofs.Ytghdginjdolgpaa
open Go.RowKit Go.Sort
def goN (xss : List (List Int)) (ds : List Int) (x : Int) : Int := ds.foldr (nxt xss) x
theorem runAll_map (xss : List (List Int)) (n : Nat) : ∀ ds : List Int, runAll xss ds n = (upTo n).map (goN xss ds)
  | [] => by
    show upTo n = _
    rw [show goN xss [] = id from rfl, List.map_id]
  | d :: ds => by
    show stepAll xss d (runAll xss ds n) = _
    rw [runAll_map xss n ds]
    unfold stepAll
    rw [List.map_map]; rfl
theorem goN_app (xss : List (List Int)) (a b : List Int) (x : Int) : goN xss (a ++ b) x = goN xss a (goN xss b x) := by unfold goN; rw [List.foldr_append]
theorem mem_upTo {n : Nat} {x : Int} : x ∈ upTo n ↔ 0 ≤ x ∧ x < n := by
  unfold upTo
  rw [List.mem_map]
  constructor
  · rintro ⟨i, h, rfl⟩; have := List.mem_range.1 h; omega
  · rintro ⟨h1, h2⟩; exact ⟨x.toNat, List.mem_range.2 (by omega), by omega⟩
theorem goN_in {s t : Int} {xss : List (List Int)} (h : chainOk s t xss = true) {ds : List Int} (hd : DrawsB t ds) {x : Int} (hx : 0 ≤ x ∧ x < xss.length) : 0 ≤ goN xss ds x ∧ goN xss ds x < xss.length := by
  have := runAll_in h hd
  rw [runAll_map] at this
  exact this _ (List.mem_map.2 ⟨x, mem_upTo.2 hx, rfl⟩)
theorem allAs_iff {l : List Int} : allAs l = true ↔ ∀ x ∈ l, x = l.headD 0 := by
  unfold allAs; rw [List.all_eq_true]; simp
theorem allAs_const {l : List Int} {c : Int} (hn : 0 < l.length) (h : ∀ x ∈ l, x = c) : allAs l = true ∧ l.headD 0 = c := by
  have h0 : l.headD 0 = c := by
    cases l with
    | nil => simp at hn
    | cons a l => exact h a (by simp)
  exact ⟨allAs_iff.2 (fun x hx => by rw [h0]; exact h x hx), h0⟩
theorem met_longer {s t : Int} {xss : List (List Int)} (h : chainOk s t xss = true) {a b : List Int} (hb : DrawsB t b) (hm : winMet (runAll xss a xss.length) = true) :
    winMet (runAll xss (a ++ b) xss.length) = true ∧ winState (runAll xss (a ++ b) xss.length) = winState (runAll xss a xss.length) := by
  have hm' : allAs (runAll xss a xss.length) = true := hm
  have hn : 0 < xss.length := by obtain ⟨h1, _, h3, _⟩ := chainOk_parts0 h; omega
  have key : ∀ x ∈ runAll xss (a ++ b) xss.length, x = (runAll xss a xss.length).headD 0 := by
    intro x hx
    rw [runAll_map, List.mem_map] at hx
    obtain ⟨y, hy, rfl⟩ := hx
    rw [goN_app]
    refine allAs_iff.1 hm' _ ?_
    rw [runAll_map]
    exact List.mem_map.2 ⟨_, mem_upTo.2 (goN_in h hb (mem_upTo.1 hy)), rfl⟩
  obtain ⟨h1, h2⟩ := allAs_const (by rw [runAll_length]; exact hn) key
  refine ⟨h1, ?_⟩
  unfold winState
  rw [if_pos h1, if_pos hm', h2]
theorem drawsL_add (x t : Int) (a b : Nat) : ∃ r, drawsL x t (a + b) = drawsL x t a ++ r ∧ ∀ d ∈ r, d ∈ drawsL x t (a + b) := by
  refine ⟨(drawsL x t (a + b)).drop a, ?_, fun d hd => List.mem_of_mem_drop hd⟩
  have : drawsL x t a = (drawsL x t (a + b)).take a := by
    unfold drawsL
    rw [← List.map_take, List.take_range, Nat.min_eq_left (by omega)]
  rw [this, List.take_append_drop]
theorem lvl_mono {s t : Int} {xss : List (List Int)} (h : chainOk s t xss = true) (seed : Int) {j k : Nat} (hjk : j ≤ k) (hm : winMet (lvlRun t xss seed j) = true) :
    winMet (lvlRun t xss seed k) = true ∧ winState (lvlRun t xss seed k) = winState (lvlRun t xss seed j) := by
  obtain ⟨_, ht, _, _⟩ := chainOk_parts0 h
  have hp : (2 : Nat) ^ j ≤ 2 ^ k := Nat.pow_le_pow_right (by decide) hjk
  obtain ⟨r, hr, hr2⟩ := drawsL_add seed t (2 ^ j) (2 ^ k - 2 ^ j)
  rw [show 2 ^ j + (2 ^ k - 2 ^ j) = 2 ^ k by omega] at hr hr2
  have := met_longer h (a := drawsL seed t (2 ^ j)) (b := r) (fun d hd => drawsL_B ht.1 d (hr2 d hd)) hm
  rw [← hr] at this
  exact this
theorem smp_spec {s t : Int} {xss : List (List Int)} (h : chainOk s t xss = true) {seed : Int} (h2 : inR seed 0 1000000000 = true) :
    (∃ k : Nat, k < 7 ∧ smpOfR s t xss seed = (winState (lvlRun t xss seed k), (k : Int), 0) ∧ winMet (lvlRun t xss seed k) = true ∧ ∀ i, i < k → winMet (lvlRun t xss seed i) = false) ∨
    (smpOfR s t xss seed = (0, 0, 6) ∧ ∀ i, i < 7 → winMet (lvlRun t xss seed i) = false) := by
  unfold smpOfR
  rw [if_pos h, if_pos h2]
  unfold smpFind
  cases hf : (List.range 7).find? (fun k => winMet (lvlRun t xss seed k)) with
  | none =>
    right
    refine ⟨rfl, fun i hi => ?_⟩
    rw [List.find?_eq_none] at hf
    have := hf i (List.mem_range.2 hi)
    simpa using this
  | some k =>
    left
    rw [List.find?_range_eq_some] at hf
    obtain ⟨h1, h3, h4⟩ := hf
    refine ⟨k, by simpa using h3, rfl, h1, fun i hi => ?_⟩
    have := h4 i hi
    simpa using this
/-- the end of the run before -/
def endL (L : List Int) (k : Nat) : Int := if k = 0 then -1 else L.getD (k - 1) 0
theorem same_first {L : List Int} (h : 0 < L.length) : allAs (L.take 1) = true := by
  cases L with
  | nil => simp at h
  | cons a l => simp [allAs]
theorem same_step {L : List Int} {k : Nat} (hk : k < L.length) (hk0 : 0 < k) : allAs (L.take (k + 1)) = (allAs (L.take k) && decide (endL L k = L[k])) := by
  have e : endL L k = L[k - 1]'(by omega) := by unfold endL; rw [if_neg (by omega), gD_at (by omega)]
  have hh : (L.take (k + 1)).headD 0 = L[0]'(by omega) := by
    cases L with
    | nil => simp at hk
    | cons a l => simp
  have hh2 : (L.take k).headD 0 = L[0]'(by omega) := by
    cases L with
    | nil => simp at hk
    | cons a l =>
      obtain ⟨k, rfl⟩ : ∃ j, k = j + 1 := ⟨k - 1, by omega⟩
      simp
  rw [Bool.eq_iff_iff, Bool.and_eq_true, decide_eq_true_eq, allAs_iff, allAs_iff, hh, hh2, e, List.take_succ_eq_append_getElem hk]
  constructor
  · intro h
    have h1 := h L[k] (List.mem_append.2 (.inr (List.mem_singleton.2 rfl)))
    have h2 := h (L[k - 1]'(by omega)) (by
      rw [List.mem_append]; left
      exact List.mem_iff_getElem.2 ⟨k - 1, by rw [List.length_take]; omega, by simp⟩)
    exact ⟨fun x hx => h x (List.mem_append.2 (.inl hx)), by rw [h1, h2]⟩
  · rintro ⟨h1, h2⟩ x hx
    simp only [List.mem_append, List.mem_singleton] at hx
    rcases hx with hx | rfl
    · exact h1 x hx
    · rw [← h2]
      exact h1 _ (List.mem_iff_getElem.2 ⟨k - 1, by rw [List.length_take]; omega, by simp⟩)
theorem same_last {L : List Int} (hn : 0 < L.length) (h : allAs L = true) : winState L = endL L L.length := by
  unfold winState endL
  rw [if_pos h, if_neg (by omega), gD_at (by omega)]
  exact (allAs_iff.1 h _ (List.getElem_mem _)).symm
/-- the end of a run -/
theorem runN_last {xss : List (List Int)} {x : Int} (ds : List Int) : ∀ k, k ≤ ds.length → (runN xss x ds k).getD k 0 = goN xss (ds.take k).reverse x
  | 0, _ => by simp [runN, goN]
  | k + 1, h => by
    rw [runN_next (Nat.lt_succ_self k), runN_get (Nat.le_succ k), runN_last ds k (by omega)]
    have hk : k < ds.length := by omega
    rw [List.take_succ_eq_append_getElem hk, List.reverse_append, gD_at hk]
    show _ = goN xss ([ds[k]] ++ (ds.take k).reverse) x
    rw [goN_app]; rfl
theorem run_end (xss : List (List Int)) (draws : List Int) (n : Nat) {x : Nat} (hx : x < n) : (runN xss x draws.reverse draws.reverse.length).getD draws.reverse.length 0 = (runAll xss draws n).getD x 0 := by
  rw [runN_last _ _ (Nat.le_refl _), List.take_length, List.reverse_reverse, runAll_map]
  have hl : x < ((upTo n).map (goN xss draws)).length := by simp [upTo_length]; exact hx
  rw [gD_at hl]
  simp [upTo]
theorem winByR_in {s t : Int} {xss : List (List Int)} {ds : List Int} (h : chainOk s t xss = true) (hd : DrawsB t ds) (hl : ds.length ≤ 64) : winByR s t xss ds = (winMet (runAll xss ds xss.length), winState (runAll xss ds xss.length), 0) := by
  unfold winByR
  rw [if_pos h, if_pos]
  unfold drawsOk
  rw [drawsB_any hd]
  simp [hl]
theorem endL_range {s t : Int} {xss : List (List Int)} (h : chainOk s t xss = true) {ds : List Int} (hd : DrawsB t ds) {k : Nat} (hk : 0 < k) (hk2 : k ≤ xss.length) : 0 ≤ endL (runAll xss ds xss.length) k ∧ endL (runAll xss ds xss.length) k < xss.length := by
  unfold endL
  have hl := runAll_length xss xss.length ds
  rw [if_neg (by omega), gD_at (by omega)]
  exact runAll_in h hd _ (List.getElem_mem _)
theorem SlI.rdE {w : World} {ad : Option Addr} {n c : Nat} {xs : List Int} (h : SlI w (.slice ad n c) xs) : Rd w ad (i64s xs) := by
  obtain ⟨a, c', he, _, _, r⟩ := h
  simp only [Value.slice.injEq] at he
  obtain ⟨rfl, _, _⟩ := he
  exact r
theorem smp_law {s t : Int} {xss : List (List Int)} (h : chainOk s t xss = true) {seed : Int} (h2 : inR seed 0 1000000000 = true) :
    ∃ X K C : Int, smpOfR s t xss seed = (X, K, C) ∧ ((C = 0 ∧ 0 ≤ K ∧ K ≤ 6 ∧ ∀ j : Nat, j < 7 → ((j : Int) < K → winMet (lvlRun t xss seed j) = false) ∧ (K ≤ (j : Int) → winMet (lvlRun t xss seed j) = true ∧ winState (lvlRun t xss seed j) = X)) ∨
      (C = 6 ∧ ∀ j : Nat, j < 7 → winMet (lvlRun t xss seed j) = false)) := by
  rcases smp_spec h h2 with ⟨k, hk, h3, h4, h5⟩ | ⟨h3, h4⟩
  · exact ⟨_, _, _, h3, .inl ⟨rfl, by omega, by omega, fun j hj => ⟨fun hl => h5 j (by omega), fun hl => lvl_mono h seed (by omega) h4⟩⟩⟩
  · exact ⟨_, _, _, h3, .inr ⟨rfl, h4⟩⟩
theorem shlJ {j : Nat} (h : j < 7) : wrap64 ((2 : Int) ^ j) = ((2 ^ j : Nat) : Int) ∧ 2 ^ j ≤ 64 := by
  rcases (by omega : j = 0 ∨ j = 1 ∨ j = 2 ∨ j = 3 ∨ j = 4 ∨ j = 5 ∨ j = 6) with rfl | rfl | rfl | rfl | rfl | rfl | rfl <;> exact ⟨by kernel_rfl, by decide⟩
theorem drawsOf_ok {s t : Int} {n : Nat} (hs : 0 ≤ s ∧ s ≤ 1000000000) (ht : 1 ≤ t ∧ t ≤ 60) (hn : n ≤ 64) : drawsOfR s t (n : Int) = (drawsL s t n, 0) := by
  unfold drawsOfR drawsOfB
  rw [inR_iff.2 hs, inR_iff.2 ht, inR_iff.2 ⟨by omega, by omega⟩]
  simp
theorem winOf_in {s t : Int} {xss : List (List Int)} {seed : Int} {k : Nat} (h : chainOk s t xss = true) (h2 : 0 ≤ seed ∧ seed ≤ 1000000000) (hk : k < 7) : winOfR s t xss seed k = (winMet (lvlRun t xss seed k), winState (lvlRun t xss seed k), 0) := by
  unfold winOfR
  rw [if_pos h, inR_iff.2 h2, inR_iff.2 ⟨by omega, by omega⟩]
  simp
theorem winBy_lvl {s t : Int} {xss : List (List Int)} {seed : Int} {k : Nat} (h : chainOk s t xss = true) (hk : k < 7) : winByR s t xss (drawsL seed t (2 ^ k)) = (winMet (lvlRun t xss seed k), winState (lvlRun t xss seed k), 0) := by
  obtain ⟨_, ht, _, _⟩ := chainOk_parts0 h
  rw [winByR_in h (drawsL_B ht.1) (by rw [drawsL_length]; exact (shlJ hk).2)]
  rfl
end Go.Proofs.Ytghdginjdolgpaa
