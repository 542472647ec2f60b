/-
  WindowByDraws, both sides; a search by a closure. With it: A window of one level: draws of the seed, then the window. WindowOf: the window of one level.
-/
import Derived.Test.YtijpkcdalmlaiaaZRowFnPlantPackets9
import Derived.Test.YtijpkcdalmlaiaaZRowFnPlantPackets3
import Derived.Deep.RegionWith
import Derived.Deep.DeepCutAuto
import Derived.Test.YtijpkcdalmlaiaaZRowFnPlantPackets6
set_option linter.unusedVariables false
set_option linter.unusedSimpArgs false
namespace Go.Proofs.Ytijpkcdalmlaiaa
open Go.RowKit

theorem drawsL_B {x t : Int} {n : Nat} (ht : 1 ≤ t) : DrawsB t (drawsL x t n) := by
  intro d hd
  unfold drawsL at hd
  rw [List.mem_map] at hd
  obtain ⟨i, _, rfl⟩ := hd
  exact ⟨Int.emod_nonneg _ (by omega), Int.emod_lt_of_pos _ (by omega)⟩

/-- the states after the draws of one level -/
def lvlRun (t : Int) (xss : List (List Int)) (seed : Int) (k : Nat) : List Int := runAll xss (drawsL seed t (2 ^ k)) xss.length

/-- the count of draws of a level -/
def lvlN (k : Int) : Int := 2 ^ k.toNat
theorem lvl_cases {P : Int → Int → Nat → Prop} (h0 : P 0 1 0) (h1 : P 1 2 1) (h2 : P 2 4 2) (h3 : P 3 8 3) (h4 : P 4 16 4) (h5 : P 5 32 5) (h6 : P 6 64 6) {k : Nat} (hk : k ≤ 6) : P k (2 ^ k : Nat) k := by
  rcases (by omega : k = 0 ∨ k = 1 ∨ k = 2 ∨ k = 3 ∨ k = 4 ∨ k = 5 ∨ k = 6) with rfl | rfl | rfl | rfl | rfl | rfl | rfl <;> assumption

set_option maxHeartbeats 4000000 in
set_option maxRecDepth 20000 in
theorem l09Level_any {v : Value} {xss : List (List Int)} (b o : Nat) (s t seed : Int) (k : Nat) (w : World) (hc : ChainAt w b o s t v) (ha : SlII w v xss) (hv : chainOk s t xss = true)
    (h0 : 0 ≤ seed) (h1 : seed < 2147483648) (hk : k ≤ 6) :
    Calls Try.prog 125 #[.pointer (some ⟨b, o, none⟩), .int .i64 seed, .int .i64 k] w fun e w' => e = .returned (.tuple #[.bool (winMet (lvlRun t xss seed k)), .int .i64 (winState (lvlRun t xss seed k))]) ∧ Below w.heap.size w w' := by
  obtain ⟨_, ⟨ht1, ht2⟩, _, _⟩ := chainOk_parts0 hv
  have HC := Lib.hid hc
  obtain ⟨c00, c0, c1, _⟩ := hc
  refine lvl_cases (P := fun ki _ k => Calls Try.prog 125 #[.pointer (some ⟨b, o, none⟩), .int .i64 seed, .int .i64 ki] w fun e w' => e = .returned (.tuple #[.bool (winMet (lvlRun t xss seed k)), .int .i64 (winState (lvlRun t xss seed k))]) ∧ Below w.heap.size w w') ?_ ?_ ?_ ?_ ?_ ?_ ?_ hk
  · go_enter Try.func125, Try.ntmps125
    go_wp2_with fail
    refine (l09Draws_any seed t 1 _ h0 h1 ht1 (by omega) (by omega)).mono ?_
    rintro e w1 ⟨dv, rfl, hd, b1⟩
    go_wp2_with fail
    refine (l09Window_any b o s t _ ((HC.out).below b1) (ha.below b1) hd.sl hv (drawsL_B ht1)).mono ?_
    rintro e w2 ⟨rfl, b2⟩
    go_wp2
    go_ret2
    exact ⟨rfl, b1.trans (b2.mono b1.size)⟩
  · go_enter Try.func125, Try.ntmps125
    go_wp2_with fail
    refine (l09Draws_any seed t 2 _ h0 h1 ht1 (by omega) (by omega)).mono ?_
    rintro e w1 ⟨dv, rfl, hd, b1⟩
    go_wp2_with fail
    refine (l09Window_any b o s t _ ((HC.out).below b1) (ha.below b1) hd.sl hv (drawsL_B ht1)).mono ?_
    rintro e w2 ⟨rfl, b2⟩
    go_wp2
    go_ret2
    exact ⟨rfl, b1.trans (b2.mono b1.size)⟩
  · go_enter Try.func125, Try.ntmps125
    go_wp2_with fail
    refine (l09Draws_any seed t 4 _ h0 h1 ht1 (by omega) (by omega)).mono ?_
    rintro e w1 ⟨dv, rfl, hd, b1⟩
    go_wp2_with fail
    refine (l09Window_any b o s t _ ((HC.out).below b1) (ha.below b1) hd.sl hv (drawsL_B ht1)).mono ?_
    rintro e w2 ⟨rfl, b2⟩
    go_wp2
    go_ret2
    exact ⟨rfl, b1.trans (b2.mono b1.size)⟩
  · go_enter Try.func125, Try.ntmps125
    go_wp2_with fail
    refine (l09Draws_any seed t 8 _ h0 h1 ht1 (by omega) (by omega)).mono ?_
    rintro e w1 ⟨dv, rfl, hd, b1⟩
    go_wp2_with fail
    refine (l09Window_any b o s t _ ((HC.out).below b1) (ha.below b1) hd.sl hv (drawsL_B ht1)).mono ?_
    rintro e w2 ⟨rfl, b2⟩
    go_wp2
    go_ret2
    exact ⟨rfl, b1.trans (b2.mono b1.size)⟩
  · go_enter Try.func125, Try.ntmps125
    go_wp2_with fail
    refine (l09Draws_any seed t 16 _ h0 h1 ht1 (by omega) (by omega)).mono ?_
    rintro e w1 ⟨dv, rfl, hd, b1⟩
    go_wp2_with fail
    refine (l09Window_any b o s t _ ((HC.out).below b1) (ha.below b1) hd.sl hv (drawsL_B ht1)).mono ?_
    rintro e w2 ⟨rfl, b2⟩
    go_wp2
    go_ret2
    exact ⟨rfl, b1.trans (b2.mono b1.size)⟩
  · go_enter Try.func125, Try.ntmps125
    go_wp2_with fail
    refine (l09Draws_any seed t 32 _ h0 h1 ht1 (by omega) (by omega)).mono ?_
    rintro e w1 ⟨dv, rfl, hd, b1⟩
    go_wp2_with fail
    refine (l09Window_any b o s t _ ((HC.out).below b1) (ha.below b1) hd.sl hv (drawsL_B ht1)).mono ?_
    rintro e w2 ⟨rfl, b2⟩
    go_wp2
    go_ret2
    exact ⟨rfl, b1.trans (b2.mono b1.size)⟩
  · go_enter Try.func125, Try.ntmps125
    go_wp2_with fail
    refine (l09Draws_any seed t 64 _ h0 h1 ht1 (by omega) (by omega)).mono ?_
    rintro e w1 ⟨dv, rfl, hd, b1⟩
    go_wp2_with fail
    refine (l09Window_any b o s t _ ((HC.out).below b1) (ha.below b1) hd.sl hv (drawsL_B ht1)).mono ?_
    rintro e w2 ⟨rfl, b2⟩
    go_wp2
    go_ret2
    exact ⟨rfl, b1.trans (b2.mono b1.size)⟩

theorem at1 : (1 : Int) = ((1 : Nat) : Int) := rfl
theorem at2 : (2 : Int) = ((2 : Nat) : Int) := rfl
theorem at4 : (4 : Int) = ((4 : Nat) : Int) := rfl
theorem at8 : (8 : Int) = ((8 : Nat) : Int) := rfl
theorem at16 : (16 : Int) = ((16 : Nat) : Int) := rfl
theorem at32 : (32 : Int) = ((32 : Nat) : Int) := rfl
theorem at64 : (64 : Int) = ((64 : Nat) : Int) := rfl
theorem drawsOf_at (seed total d : Int) (n : Nat) (w : World) (hd : d = (n : Int)) (h0 : 0 ≤ seed) (h1 : seed < 2147483648) (ht0 : 1 ≤ total) (ht1 : total ≤ 1000000) (hn : n ≤ 1000000) :
    Calls Try.prog 130 #[.int .i64 seed, .int .i64 total, .int .i64 d] w fun e w' => ∃ v, e = .returned v ∧ OwnI w' w.heap.size v (drawsL seed total n) ∧ Below w.heap.size w w' := by
  subst hd
  exact drawsOf_any seed total n w h0 h1 ht0 ht1 hn

theorem lvl1 (t : Int) (xss : List (List Int)) (seed : Int) : runAll xss (drawsL seed t 1) xss.length = lvlRun t xss seed 0 := rfl
theorem lvl2 (t : Int) (xss : List (List Int)) (seed : Int) : runAll xss (drawsL seed t 2) xss.length = lvlRun t xss seed 1 := rfl
theorem lvl4 (t : Int) (xss : List (List Int)) (seed : Int) : runAll xss (drawsL seed t 4) xss.length = lvlRun t xss seed 2 := rfl
theorem lvl8 (t : Int) (xss : List (List Int)) (seed : Int) : runAll xss (drawsL seed t 8) xss.length = lvlRun t xss seed 3 := rfl
theorem lvl16 (t : Int) (xss : List (List Int)) (seed : Int) : runAll xss (drawsL seed t 16) xss.length = lvlRun t xss seed 4 := rfl
theorem lvl32 (t : Int) (xss : List (List Int)) (seed : Int) : runAll xss (drawsL seed t 32) xss.length = lvlRun t xss seed 5 := rfl
theorem lvl64 (t : Int) (xss : List (List Int)) (seed : Int) : runAll xss (drawsL seed t 64) xss.length = lvlRun t xss seed 6 := rfl
set_option maxHeartbeats 4000000 in
set_option maxRecDepth 20000 in
theorem windowOf_any {v : Value} {xss : List (List Int)} (s t seed : Int) (k : Nat) (w : World) (ha : SlII w v xss) (hv : chainOk s t xss = true)
    (h0 : 0 ≤ seed) (h1 : seed < 2147483648) (hk : k ≤ 6) :
    Calls Try.prog 112 #[.agg #[.int .i64 s, .int .i64 t, v], .int .i64 seed, .int .i64 k] w fun e w' => e = .returned (.tuple #[.bool (winMet (lvlRun t xss seed k)), .int .i64 (winState (lvlRun t xss seed k))]) ∧ Below w.heap.size w w' := by
  obtain ⟨_, ⟨ht1, ht2⟩, _, _⟩ := chainOk_parts0 hv
  have HA := Lib.hid (fun W (h : Below w.heap.size w W) => ha.below h)
  obtain ⟨a, ca, us, rfl, _, _, _, _, _⟩ := ha
  have bb := chBelow w s t (.slice a xss.length ca)
  have hcb := Lib.hid (chBox w s t (.slice a xss.length ca))
  refine lvl_cases (P := fun ki _ k => Calls Try.prog 112 #[.agg #[.int .i64 s, .int .i64 t, .slice a xss.length ca], .int .i64 seed, .int .i64 ki] w fun e w' => e = .returned (.tuple #[.bool (winMet (lvlRun t xss seed k)), .int .i64 (winState (lvlRun t xss seed k))]) ∧ Below w.heap.size w w') ?_ ?_ ?_ ?_ ?_ ?_ ?_ hk
  · go_enter Try.func112, Try.ntmps112
    go_upto_region 1 with (fail)
    go_cut [6, 7] (fun s6 s7 wx => s6 = .bool (winMet (lvlRun t xss seed 0)) ∧ s7 = .int .i64 (winState (lvlRun t xss seed 0)) ∧ Below (w.alloc (chObj s t (.slice a xss.length ca))).heap.size (w.alloc (chObj s t (.slice a xss.length ca))) wx)
    case first =>
      have hbz := (Below.refl (w.alloc (chObj s t (.slice a xss.length ca))).heap.size (w.alloc (chObj s t (.slice a xss.length ca)))).drew
      have c0 := hcb.out.2.1
      have c1 := hcb.out.2.2.1
      have c2 := hcb.out.2.2.2
      obtain ⟨c00, _⟩ := hcb.out
      simp only [Nat.zero_add] at c0 c1 c2
      have ew : IntKind.i64.wrap 1 = 1 := rfl
      have L := Lib.hid (lvl1 t xss seed)
      go_region_with (first
        | (go_at_call 130; (with_reducible refine (drawsOf_at seed t 1 1 _ at1 h0 h1 ht1 (by omega) (by omega)).mono ?_); rintro e w' ⟨dv, rfl, hd, b⟩; have sd := hd.sl; have hbz := hbz.trans (b.mono hbz.size); clear hd; obtain ⟨_, r0, r1, r2⟩ := hcb.out.below hbz; simp only [Nat.zero_add] at r0 r1 r2)
        | (go_at_call 129; (with_reducible refine (window_any s t _ (HA.out _ (bb.trans (hbz.mono bb.size))) sd hv (drawsL_B ht1)).mono ?_); rintro e w' ⟨rfl, b⟩; rw [L.out]; have hbz := hbz.trans (b.mono hbz.size)))
      all_goals (go_wp2_with fail; go_meet; exact ⟨rfl, rfl, hbz⟩)
    case rest =>
      obtain ⟨rfl, rfl, hbc⟩ := hcut
      go_wp2
      go_ret2
      exact ⟨rfl, bb.trans (hbc.mono bb.size)⟩
  · go_enter Try.func112, Try.ntmps112
    go_upto_region 1 with (fail)
    go_cut [6, 7] (fun s6 s7 wx => s6 = .bool (winMet (lvlRun t xss seed 1)) ∧ s7 = .int .i64 (winState (lvlRun t xss seed 1)) ∧ Below (w.alloc (chObj s t (.slice a xss.length ca))).heap.size (w.alloc (chObj s t (.slice a xss.length ca))) wx)
    case first =>
      have hbz := (Below.refl (w.alloc (chObj s t (.slice a xss.length ca))).heap.size (w.alloc (chObj s t (.slice a xss.length ca)))).drew
      have c0 := hcb.out.2.1
      have c1 := hcb.out.2.2.1
      have c2 := hcb.out.2.2.2
      obtain ⟨c00, _⟩ := hcb.out
      simp only [Nat.zero_add] at c0 c1 c2
      have ew : IntKind.i64.wrap 2 = 2 := rfl
      have L := Lib.hid (lvl2 t xss seed)
      go_region_with (first
        | (go_at_call 130; (with_reducible refine (drawsOf_at seed t 2 2 _ at2 h0 h1 ht1 (by omega) (by omega)).mono ?_); rintro e w' ⟨dv, rfl, hd, b⟩; have sd := hd.sl; have hbz := hbz.trans (b.mono hbz.size); clear hd; obtain ⟨_, r0, r1, r2⟩ := hcb.out.below hbz; simp only [Nat.zero_add] at r0 r1 r2)
        | (go_at_call 129; (with_reducible refine (window_any s t _ (HA.out _ (bb.trans (hbz.mono bb.size))) sd hv (drawsL_B ht1)).mono ?_); rintro e w' ⟨rfl, b⟩; rw [L.out]; have hbz := hbz.trans (b.mono hbz.size)))
      all_goals (go_wp2_with fail; go_meet; exact ⟨rfl, rfl, hbz⟩)
    case rest =>
      obtain ⟨rfl, rfl, hbc⟩ := hcut
      go_wp2
      go_ret2
      exact ⟨rfl, bb.trans (hbc.mono bb.size)⟩
  · go_enter Try.func112, Try.ntmps112
    go_upto_region 1 with (fail)
    go_cut [6, 7] (fun s6 s7 wx => s6 = .bool (winMet (lvlRun t xss seed 2)) ∧ s7 = .int .i64 (winState (lvlRun t xss seed 2)) ∧ Below (w.alloc (chObj s t (.slice a xss.length ca))).heap.size (w.alloc (chObj s t (.slice a xss.length ca))) wx)
    case first =>
      have hbz := (Below.refl (w.alloc (chObj s t (.slice a xss.length ca))).heap.size (w.alloc (chObj s t (.slice a xss.length ca)))).drew
      have c0 := hcb.out.2.1
      have c1 := hcb.out.2.2.1
      have c2 := hcb.out.2.2.2
      obtain ⟨c00, _⟩ := hcb.out
      simp only [Nat.zero_add] at c0 c1 c2
      have ew : IntKind.i64.wrap 4 = 4 := rfl
      have L := Lib.hid (lvl4 t xss seed)
      go_region_with (first
        | (go_at_call 130; (with_reducible refine (drawsOf_at seed t 4 4 _ at4 h0 h1 ht1 (by omega) (by omega)).mono ?_); rintro e w' ⟨dv, rfl, hd, b⟩; have sd := hd.sl; have hbz := hbz.trans (b.mono hbz.size); clear hd; obtain ⟨_, r0, r1, r2⟩ := hcb.out.below hbz; simp only [Nat.zero_add] at r0 r1 r2)
        | (go_at_call 129; (with_reducible refine (window_any s t _ (HA.out _ (bb.trans (hbz.mono bb.size))) sd hv (drawsL_B ht1)).mono ?_); rintro e w' ⟨rfl, b⟩; rw [L.out]; have hbz := hbz.trans (b.mono hbz.size)))
      all_goals (go_wp2_with fail; go_meet; exact ⟨rfl, rfl, hbz⟩)
    case rest =>
      obtain ⟨rfl, rfl, hbc⟩ := hcut
      go_wp2
      go_ret2
      exact ⟨rfl, bb.trans (hbc.mono bb.size)⟩
  · go_enter Try.func112, Try.ntmps112
    go_upto_region 1 with (fail)
    go_cut [6, 7] (fun s6 s7 wx => s6 = .bool (winMet (lvlRun t xss seed 3)) ∧ s7 = .int .i64 (winState (lvlRun t xss seed 3)) ∧ Below (w.alloc (chObj s t (.slice a xss.length ca))).heap.size (w.alloc (chObj s t (.slice a xss.length ca))) wx)
    case first =>
      have hbz := (Below.refl (w.alloc (chObj s t (.slice a xss.length ca))).heap.size (w.alloc (chObj s t (.slice a xss.length ca)))).drew
      have c0 := hcb.out.2.1
      have c1 := hcb.out.2.2.1
      have c2 := hcb.out.2.2.2
      obtain ⟨c00, _⟩ := hcb.out
      simp only [Nat.zero_add] at c0 c1 c2
      have ew : IntKind.i64.wrap 8 = 8 := rfl
      have L := Lib.hid (lvl8 t xss seed)
      go_region_with (first
        | (go_at_call 130; (with_reducible refine (drawsOf_at seed t 8 8 _ at8 h0 h1 ht1 (by omega) (by omega)).mono ?_); rintro e w' ⟨dv, rfl, hd, b⟩; have sd := hd.sl; have hbz := hbz.trans (b.mono hbz.size); clear hd; obtain ⟨_, r0, r1, r2⟩ := hcb.out.below hbz; simp only [Nat.zero_add] at r0 r1 r2)
        | (go_at_call 129; (with_reducible refine (window_any s t _ (HA.out _ (bb.trans (hbz.mono bb.size))) sd hv (drawsL_B ht1)).mono ?_); rintro e w' ⟨rfl, b⟩; rw [L.out]; have hbz := hbz.trans (b.mono hbz.size)))
      all_goals (go_wp2_with fail; go_meet; exact ⟨rfl, rfl, hbz⟩)
    case rest =>
      obtain ⟨rfl, rfl, hbc⟩ := hcut
      go_wp2
      go_ret2
      exact ⟨rfl, bb.trans (hbc.mono bb.size)⟩
  · go_enter Try.func112, Try.ntmps112
    go_upto_region 1 with (fail)
    go_cut [6, 7] (fun s6 s7 wx => s6 = .bool (winMet (lvlRun t xss seed 4)) ∧ s7 = .int .i64 (winState (lvlRun t xss seed 4)) ∧ Below (w.alloc (chObj s t (.slice a xss.length ca))).heap.size (w.alloc (chObj s t (.slice a xss.length ca))) wx)
    case first =>
      have hbz := (Below.refl (w.alloc (chObj s t (.slice a xss.length ca))).heap.size (w.alloc (chObj s t (.slice a xss.length ca)))).drew
      have c0 := hcb.out.2.1
      have c1 := hcb.out.2.2.1
      have c2 := hcb.out.2.2.2
      obtain ⟨c00, _⟩ := hcb.out
      simp only [Nat.zero_add] at c0 c1 c2
      have ew : IntKind.i64.wrap 16 = 16 := rfl
      have L := Lib.hid (lvl16 t xss seed)
      go_region_with (first
        | (go_at_call 130; (with_reducible refine (drawsOf_at seed t 16 16 _ at16 h0 h1 ht1 (by omega) (by omega)).mono ?_); rintro e w' ⟨dv, rfl, hd, b⟩; have sd := hd.sl; have hbz := hbz.trans (b.mono hbz.size); clear hd; obtain ⟨_, r0, r1, r2⟩ := hcb.out.below hbz; simp only [Nat.zero_add] at r0 r1 r2)
        | (go_at_call 129; (with_reducible refine (window_any s t _ (HA.out _ (bb.trans (hbz.mono bb.size))) sd hv (drawsL_B ht1)).mono ?_); rintro e w' ⟨rfl, b⟩; rw [L.out]; have hbz := hbz.trans (b.mono hbz.size)))
      all_goals (go_wp2_with fail; go_meet; exact ⟨rfl, rfl, hbz⟩)
    case rest =>
      obtain ⟨rfl, rfl, hbc⟩ := hcut
      go_wp2
      go_ret2
      exact ⟨rfl, bb.trans (hbc.mono bb.size)⟩
  · go_enter Try.func112, Try.ntmps112
    go_upto_region 1 with (fail)
    go_cut [6, 7] (fun s6 s7 wx => s6 = .bool (winMet (lvlRun t xss seed 5)) ∧ s7 = .int .i64 (winState (lvlRun t xss seed 5)) ∧ Below (w.alloc (chObj s t (.slice a xss.length ca))).heap.size (w.alloc (chObj s t (.slice a xss.length ca))) wx)
    case first =>
      have hbz := (Below.refl (w.alloc (chObj s t (.slice a xss.length ca))).heap.size (w.alloc (chObj s t (.slice a xss.length ca)))).drew
      have c0 := hcb.out.2.1
      have c1 := hcb.out.2.2.1
      have c2 := hcb.out.2.2.2
      obtain ⟨c00, _⟩ := hcb.out
      simp only [Nat.zero_add] at c0 c1 c2
      have ew : IntKind.i64.wrap 32 = 32 := rfl
      have L := Lib.hid (lvl32 t xss seed)
      go_region_with (first
        | (go_at_call 130; (with_reducible refine (drawsOf_at seed t 32 32 _ at32 h0 h1 ht1 (by omega) (by omega)).mono ?_); rintro e w' ⟨dv, rfl, hd, b⟩; have sd := hd.sl; have hbz := hbz.trans (b.mono hbz.size); clear hd; obtain ⟨_, r0, r1, r2⟩ := hcb.out.below hbz; simp only [Nat.zero_add] at r0 r1 r2)
        | (go_at_call 129; (with_reducible refine (window_any s t _ (HA.out _ (bb.trans (hbz.mono bb.size))) sd hv (drawsL_B ht1)).mono ?_); rintro e w' ⟨rfl, b⟩; rw [L.out]; have hbz := hbz.trans (b.mono hbz.size)))
      all_goals (go_wp2_with fail; go_meet; exact ⟨rfl, rfl, hbz⟩)
    case rest =>
      obtain ⟨rfl, rfl, hbc⟩ := hcut
      go_wp2
      go_ret2
      exact ⟨rfl, bb.trans (hbc.mono bb.size)⟩
  · go_enter Try.func112, Try.ntmps112
    go_upto_region 1 with (fail)
    go_cut [6, 7] (fun s6 s7 wx => s6 = .bool (winMet (lvlRun t xss seed 6)) ∧ s7 = .int .i64 (winState (lvlRun t xss seed 6)) ∧ Below (w.alloc (chObj s t (.slice a xss.length ca))).heap.size (w.alloc (chObj s t (.slice a xss.length ca))) wx)
    case first =>
      have hbz := (Below.refl (w.alloc (chObj s t (.slice a xss.length ca))).heap.size (w.alloc (chObj s t (.slice a xss.length ca)))).drew
      have c0 := hcb.out.2.1
      have c1 := hcb.out.2.2.1
      have c2 := hcb.out.2.2.2
      obtain ⟨c00, _⟩ := hcb.out
      simp only [Nat.zero_add] at c0 c1 c2
      have ew : IntKind.i64.wrap 64 = 64 := rfl
      have L := Lib.hid (lvl64 t xss seed)
      go_region_with (first
        | (go_at_call 130; (with_reducible refine (drawsOf_at seed t 64 64 _ at64 h0 h1 ht1 (by omega) (by omega)).mono ?_); rintro e w' ⟨dv, rfl, hd, b⟩; have sd := hd.sl; have hbz := hbz.trans (b.mono hbz.size); clear hd; obtain ⟨_, r0, r1, r2⟩ := hcb.out.below hbz; simp only [Nat.zero_add] at r0 r1 r2)
        | (go_at_call 129; (with_reducible refine (window_any s t _ (HA.out _ (bb.trans (hbz.mono bb.size))) sd hv (drawsL_B ht1)).mono ?_); rintro e w' ⟨rfl, b⟩; rw [L.out]; have hbz := hbz.trans (b.mono hbz.size)))
      all_goals (go_wp2_with fail; go_meet; exact ⟨rfl, rfl, hbz⟩)
    case rest =>
      obtain ⟨rfl, rfl, hbc⟩ := hcut
      go_wp2
      go_ret2
      exact ⟨rfl, bb.trans (hbc.mono bb.size)⟩
end Go.Proofs.Ytijpkcdalmlaiaa
namespace Go.Proofs.Ytijpkcdalmlaiaa
open Go.RowKit

def winOfR (s t : Int) (xss : List (List Int)) (seed lvl : Int) : Bool × Int × Int :=
  if chainOk s t xss = true then (if (inR seed 0 1000000000 && inR lvl 0 6) = true then (winMet (lvlRun t xss seed lvl.toNat), winState (lvlRun t xss seed lvl.toNat), 0) else (false, 0, 2)) else (false, 0, 1)
def tup3 (r : Bool × Int × Int) : Value := .tuple #[.bool r.1, .int .i64 r.2.1, .int .i64 r.2.2]
theorem winOfR_no {s t : Int} {xss : List (List Int)} {seed lvl : Int} (h : chainOk s t xss = false) : Ending.returned (.tuple #[.bool false, .int .i64 0, .int .i64 1]) = .returned (tup3 (winOfR s t xss seed lvl)) := by
  unfold winOfR; rw [h]; rfl
theorem winOfR_rng {s t : Int} {xss : List (List Int)} {seed lvl : Int} (h : chainOk s t xss = true) (h2 : (inR seed 0 1000000000 && inR lvl 0 6) = false) : Ending.returned (.tuple #[.bool false, .int .i64 0, .int .i64 2]) = .returned (tup3 (winOfR s t xss seed lvl)) := by
  unfold winOfR; rw [if_pos h, h2]; rfl
theorem winOfR_ok {s t : Int} {xss : List (List Int)} {seed : Int} {k : Nat} (h : chainOk s t xss = true) (h2 : (inR seed 0 1000000000 && inR (k : Int) 0 6) = true) :
    Ending.returned (.tuple #[.bool (winMet (lvlRun t xss seed k)), .int .i64 (winState (lvlRun t xss seed k)), .int .i64 0]) = .returned (tup3 (winOfR s t xss seed k)) := by
  unfold winOfR; rw [if_pos h, if_pos h2, Int.toNat_natCast]; rfl
end Go.Proofs.Ytijpkcdalmlaiaa
namespace Go.Proofs.Ytijpkcdalmlaiaa
open Go.RowKit Go.Sort

def drawsOk (t : Int) (draws : List Int) : Bool := decide (draws.length ≤ 64) && !(draws.any fun d => !inR d 0 (t - 1))
def winByR (s t : Int) (xss : List (List Int)) (draws : List Int) : Bool × Int × Int :=
  if chainOk s t xss = true then (if drawsOk t draws = true then (winMet (runAll xss draws xss.length), winState (runAll xss draws xss.length), 0) else (false, 0, 2)) else (false, 0, 1)
theorem winByR_no {s t : Int} {xss : List (List Int)} {d : List Int} (h : chainOk s t xss = false) : Ending.returned (.tuple #[.bool false, .int .i64 0, .int .i64 1]) = .returned (tup3 (winByR s t xss d)) := by
  unfold winByR; rw [h]; rfl
theorem winByR_rng {s t : Int} {xss : List (List Int)} {d : List Int} (h : chainOk s t xss = true) (h2 : drawsOk t d = false) : Ending.returned (.tuple #[.bool false, .int .i64 0, .int .i64 2]) = .returned (tup3 (winByR s t xss d)) := by
  unfold winByR; rw [if_pos h, h2]; rfl
theorem winByR_yes {s t : Int} {xss : List (List Int)} {d : List Int} (h : chainOk s t xss = true) (h2 : drawsOk t d = true) :
    Ending.returned (.tuple #[.bool (winMet (runAll xss d xss.length)), .int .i64 (winState (runAll xss d xss.length)), .int .i64 0]) = .returned (tup3 (winByR s t xss d)) := by
  unfold winByR; rw [if_pos h, if_pos h2]; rfl
theorem drawsOk_B {t : Int} {d : List Int} (h : drawsOk t d = true) : DrawsB t d := by
  unfold drawsOk at h
  rw [Bool.and_eq_true] at h
  have h2 := h.2
  intro x hx
  simp at h2
  have := inR_iff.1 (h2 x hx)
  omega

theorem any_take {p : Int → Bool} {l : List Int} {k : Nat} (h : (l.take k).any p = false) (hk : k < l.length) (he : p l[k] = false) : (l.take (k + 1)).any p = false := by
  rw [List.take_succ_eq_append_getElem hk, List.any_append, h]; simp [he]
theorem any_at {p : Int → Bool} {l : List Int} {k : Nat} (hk : k < l.length) (he : p l[k] = true) : l.any p = true := by
  rw [List.any_eq_true]; exact ⟨_, List.getElem_mem hk, he⟩
end Go.Proofs.Ytijpkcdalmlaiaa
