/-
  The chains that the laws draw: l01Draw, P6Chain. With it: A window of one level: draws of the seed, then the window. WindowOf: the window of one level. Searches: plain laws. WindowByDraws, both sides; a search by a closure. A search by impl.RunByDraws$1. StepByDraw and RunByDraws, both sides, for valid arguments.
-/
import Derived.Test.YtghdginjdolgpaaZRowFnForward2
import Derived.Test.YtghdginjdolgpaaZRowFnForward3
import Derived.Deep.RegionWith
import Derived.Deep.DeepCutAuto
import Derived.Test.YtghdginjdolgpaaZRowFnForward1
set_option linter.unusedVariables false
set_option linter.unusedSimpArgs false
namespace Go.Proofs.Ytghdginjdolgpaa
open Go.RowKit

theorem drawsL_B {x t : Int} {n : Nat} (ht : 1 ≤ t) : DrawsB t (drawsL x t n) := by
  intro d hd
  unfold drawsL at hd
  rw [List.mem_map] at hd
  obtain ⟨i, _, rfl⟩ := hd
  exact ⟨Int.emod_nonneg _ (by omega), Int.emod_lt_of_pos _ (by omega)⟩

/-- the states after the draws of one level -/
def lvlRun (t : Int) (xss : List (List Int)) (seed : Int) (k : Nat) : List Int := runAll xss (drawsL seed t (2 ^ k)) xss.length

/-- the count of draws of a level -/
def lvlN (k : Int) : Int := 2 ^ k.toNat
theorem lvl_cases {P : Int → Int → Nat → Prop} (h0 : P 0 1 0) (h1 : P 1 2 1) (h2 : P 2 4 2) (h3 : P 3 8 3) (h4 : P 4 16 4) (h5 : P 5 32 5) (h6 : P 6 64 6) {k : Nat} (hk : k ≤ 6) : P k (2 ^ k : Nat) k := by
  rcases (by omega : k = 0 ∨ k = 1 ∨ k = 2 ∨ k = 3 ∨ k = 4 ∨ k = 5 ∨ k = 6) with rfl | rfl | rfl | rfl | rfl | rfl | rfl <;> assumption

theorem at1 : (1 : Int) = ((1 : Nat) : Int) := rfl
theorem at2 : (2 : Int) = ((2 : Nat) : Int) := rfl
theorem at4 : (4 : Int) = ((4 : Nat) : Int) := rfl
theorem at8 : (8 : Int) = ((8 : Nat) : Int) := rfl
theorem at16 : (16 : Int) = ((16 : Nat) : Int) := rfl
theorem at32 : (32 : Int) = ((32 : Nat) : Int) := rfl
theorem at64 : (64 : Int) = ((64 : Nat) : Int) := rfl
theorem drawsOf_at (seed total d : Int) (n : Nat) (w : World) (hd : d = (n : Int)) (h0 : 0 ≤ seed) (h1 : seed < 2147483648) (ht0 : 1 ≤ total) (ht1 : total ≤ 1000000) (hn : n ≤ 1000000) :
    Calls Try.prog 49 #[.int .i64 seed, .int .i64 total, .int .i64 d] w fun e w' => ∃ v, e = .returned v ∧ OwnI w' w.heap.size v (drawsL seed total n) ∧ Below w.heap.size w w' := by
  subst hd
  exact drawsOf_any seed total n w h0 h1 ht0 ht1 hn

theorem lvl1 (t : Int) (xss : List (List Int)) (seed : Int) : runAll xss (drawsL seed t 1) xss.length = lvlRun t xss seed 0 := rfl
theorem lvl2 (t : Int) (xss : List (List Int)) (seed : Int) : runAll xss (drawsL seed t 2) xss.length = lvlRun t xss seed 1 := rfl
theorem lvl4 (t : Int) (xss : List (List Int)) (seed : Int) : runAll xss (drawsL seed t 4) xss.length = lvlRun t xss seed 2 := rfl
theorem lvl8 (t : Int) (xss : List (List Int)) (seed : Int) : runAll xss (drawsL seed t 8) xss.length = lvlRun t xss seed 3 := rfl
theorem lvl16 (t : Int) (xss : List (List Int)) (seed : Int) : runAll xss (drawsL seed t 16) xss.length = lvlRun t xss seed 4 := rfl
theorem lvl32 (t : Int) (xss : List (List Int)) (seed : Int) : runAll xss (drawsL seed t 32) xss.length = lvlRun t xss seed 5 := rfl
theorem lvl64 (t : Int) (xss : List (List Int)) (seed : Int) : runAll xss (drawsL seed t 64) xss.length = lvlRun t xss seed 6 := rfl
set_option maxHeartbeats 4000000 in
set_option maxRecDepth 20000 in
theorem windowOf_any {v : Value} {xss : List (List Int)} (s t seed : Int) (k : Nat) (w : World) (ha : SlII w v xss) (hv : chainOk s t xss = true)
    (h0 : 0 ≤ seed) (h1 : seed < 2147483648) (hk : k ≤ 6) :
    Calls Try.prog 48 #[.agg #[.int .i64 s, .int .i64 t, v], .int .i64 seed, .int .i64 k] w fun e w' => e = .returned (.tuple #[.bool (winMet (lvlRun t xss seed k)), .int .i64 (winState (lvlRun t xss seed k))]) ∧ Below w.heap.size w w' := by
  obtain ⟨_, ⟨ht1, ht2⟩, _, _⟩ := chainOk_parts0 hv
  have HA := Lib.hid (fun W (h : Below w.heap.size w W) => ha.below h)
  obtain ⟨a, ca, us, rfl, _, _, _, _, _⟩ := ha
  have bb := chBelow w s t (.slice a xss.length ca)
  have hcb := Lib.hid (chBox w s t (.slice a xss.length ca))
  refine lvl_cases (P := fun ki _ k => Calls Try.prog 48 #[.agg #[.int .i64 s, .int .i64 t, .slice a xss.length ca], .int .i64 seed, .int .i64 ki] w fun e w' => e = .returned (.tuple #[.bool (winMet (lvlRun t xss seed k)), .int .i64 (winState (lvlRun t xss seed k))]) ∧ Below w.heap.size w w') ?_ ?_ ?_ ?_ ?_ ?_ ?_ hk
  · go_enter Try.func48, Try.ntmps48
    go_upto_region 1 with (fail)
    go_cut [6, 7] (fun s6 s7 wx => s6 = .bool (winMet (lvlRun t xss seed 0)) ∧ s7 = .int .i64 (winState (lvlRun t xss seed 0)) ∧ Below (w.alloc (chObj s t (.slice a xss.length ca))).heap.size (w.alloc (chObj s t (.slice a xss.length ca))) wx)
    case first =>
      have hbz := (Below.refl (w.alloc (chObj s t (.slice a xss.length ca))).heap.size (w.alloc (chObj s t (.slice a xss.length ca)))).drew
      have c0 := hcb.out.2.1
      have c1 := hcb.out.2.2.1
      have c2 := hcb.out.2.2.2
      obtain ⟨c00, _⟩ := hcb.out
      simp only [Nat.zero_add] at c0 c1 c2
      have ew : IntKind.i64.wrap 1 = 1 := rfl
      have L := Lib.hid (lvl1 t xss seed)
      go_region_with (first
        | (go_at_call 49; (with_reducible refine (drawsOf_at seed t 1 1 _ at1 h0 h1 ht1 (by omega) (by omega)).mono ?_); rintro e w' ⟨dv, rfl, hd, b⟩; have sd := hd.sl; have hbz := hbz.trans (b.mono hbz.size); clear hd; obtain ⟨_, r0, r1, r2⟩ := hcb.out.below hbz; simp only [Nat.zero_add] at r0 r1 r2)
        | (go_at_call 43; (with_reducible refine (window_any s t _ (HA.out _ (bb.trans (hbz.mono bb.size))) sd hv (drawsL_B ht1)).mono ?_); rintro e w' ⟨rfl, b⟩; rw [L.out]; have hbz := hbz.trans (b.mono hbz.size)))
      all_goals (go_wp2_with fail; go_meet; exact ⟨rfl, rfl, hbz⟩)
    case rest =>
      obtain ⟨rfl, rfl, hbc⟩ := hcut
      go_wp2
      go_ret2
      exact ⟨rfl, bb.trans (hbc.mono bb.size)⟩
  · go_enter Try.func48, Try.ntmps48
    go_upto_region 1 with (fail)
    go_cut [6, 7] (fun s6 s7 wx => s6 = .bool (winMet (lvlRun t xss seed 1)) ∧ s7 = .int .i64 (winState (lvlRun t xss seed 1)) ∧ Below (w.alloc (chObj s t (.slice a xss.length ca))).heap.size (w.alloc (chObj s t (.slice a xss.length ca))) wx)
    case first =>
      have hbz := (Below.refl (w.alloc (chObj s t (.slice a xss.length ca))).heap.size (w.alloc (chObj s t (.slice a xss.length ca)))).drew
      have c0 := hcb.out.2.1
      have c1 := hcb.out.2.2.1
      have c2 := hcb.out.2.2.2
      obtain ⟨c00, _⟩ := hcb.out
      simp only [Nat.zero_add] at c0 c1 c2
      have ew : IntKind.i64.wrap 2 = 2 := rfl
      have L := Lib.hid (lvl2 t xss seed)
      go_region_with (first
        | (go_at_call 49; (with_reducible refine (drawsOf_at seed t 2 2 _ at2 h0 h1 ht1 (by omega) (by omega)).mono ?_); rintro e w' ⟨dv, rfl, hd, b⟩; have sd := hd.sl; have hbz := hbz.trans (b.mono hbz.size); clear hd; obtain ⟨_, r0, r1, r2⟩ := hcb.out.below hbz; simp only [Nat.zero_add] at r0 r1 r2)
        | (go_at_call 43; (with_reducible refine (window_any s t _ (HA.out _ (bb.trans (hbz.mono bb.size))) sd hv (drawsL_B ht1)).mono ?_); rintro e w' ⟨rfl, b⟩; rw [L.out]; have hbz := hbz.trans (b.mono hbz.size)))
      all_goals (go_wp2_with fail; go_meet; exact ⟨rfl, rfl, hbz⟩)
    case rest =>
      obtain ⟨rfl, rfl, hbc⟩ := hcut
      go_wp2
      go_ret2
      exact ⟨rfl, bb.trans (hbc.mono bb.size)⟩
  · go_enter Try.func48, Try.ntmps48
    go_upto_region 1 with (fail)
    go_cut [6, 7] (fun s6 s7 wx => s6 = .bool (winMet (lvlRun t xss seed 2)) ∧ s7 = .int .i64 (winState (lvlRun t xss seed 2)) ∧ Below (w.alloc (chObj s t (.slice a xss.length ca))).heap.size (w.alloc (chObj s t (.slice a xss.length ca))) wx)
    case first =>
      have hbz := (Below.refl (w.alloc (chObj s t (.slice a xss.length ca))).heap.size (w.alloc (chObj s t (.slice a xss.length ca)))).drew
      have c0 := hcb.out.2.1
      have c1 := hcb.out.2.2.1
      have c2 := hcb.out.2.2.2
      obtain ⟨c00, _⟩ := hcb.out
      simp only [Nat.zero_add] at c0 c1 c2
      have ew : IntKind.i64.wrap 4 = 4 := rfl
      have L := Lib.hid (lvl4 t xss seed)
      go_region_with (first
        | (go_at_call 49; (with_reducible refine (drawsOf_at seed t 4 4 _ at4 h0 h1 ht1 (by omega) (by omega)).mono ?_); rintro e w' ⟨dv, rfl, hd, b⟩; have sd := hd.sl; have hbz := hbz.trans (b.mono hbz.size); clear hd; obtain ⟨_, r0, r1, r2⟩ := hcb.out.below hbz; simp only [Nat.zero_add] at r0 r1 r2)
        | (go_at_call 43; (with_reducible refine (window_any s t _ (HA.out _ (bb.trans (hbz.mono bb.size))) sd hv (drawsL_B ht1)).mono ?_); rintro e w' ⟨rfl, b⟩; rw [L.out]; have hbz := hbz.trans (b.mono hbz.size)))
      all_goals (go_wp2_with fail; go_meet; exact ⟨rfl, rfl, hbz⟩)
    case rest =>
      obtain ⟨rfl, rfl, hbc⟩ := hcut
      go_wp2
      go_ret2
      exact ⟨rfl, bb.trans (hbc.mono bb.size)⟩
  · go_enter Try.func48, Try.ntmps48
    go_upto_region 1 with (fail)
    go_cut [6, 7] (fun s6 s7 wx => s6 = .bool (winMet (lvlRun t xss seed 3)) ∧ s7 = .int .i64 (winState (lvlRun t xss seed 3)) ∧ Below (w.alloc (chObj s t (.slice a xss.length ca))).heap.size (w.alloc (chObj s t (.slice a xss.length ca))) wx)
    case first =>
      have hbz := (Below.refl (w.alloc (chObj s t (.slice a xss.length ca))).heap.size (w.alloc (chObj s t (.slice a xss.length ca)))).drew
      have c0 := hcb.out.2.1
      have c1 := hcb.out.2.2.1
      have c2 := hcb.out.2.2.2
      obtain ⟨c00, _⟩ := hcb.out
      simp only [Nat.zero_add] at c0 c1 c2
      have ew : IntKind.i64.wrap 8 = 8 := rfl
      have L := Lib.hid (lvl8 t xss seed)
      go_region_with (first
        | (go_at_call 49; (with_reducible refine (drawsOf_at seed t 8 8 _ at8 h0 h1 ht1 (by omega) (by omega)).mono ?_); rintro e w' ⟨dv, rfl, hd, b⟩; have sd := hd.sl; have hbz := hbz.trans (b.mono hbz.size); clear hd; obtain ⟨_, r0, r1, r2⟩ := hcb.out.below hbz; simp only [Nat.zero_add] at r0 r1 r2)
        | (go_at_call 43; (with_reducible refine (window_any s t _ (HA.out _ (bb.trans (hbz.mono bb.size))) sd hv (drawsL_B ht1)).mono ?_); rintro e w' ⟨rfl, b⟩; rw [L.out]; have hbz := hbz.trans (b.mono hbz.size)))
      all_goals (go_wp2_with fail; go_meet; exact ⟨rfl, rfl, hbz⟩)
    case rest =>
      obtain ⟨rfl, rfl, hbc⟩ := hcut
      go_wp2
      go_ret2
      exact ⟨rfl, bb.trans (hbc.mono bb.size)⟩
  · go_enter Try.func48, Try.ntmps48
    go_upto_region 1 with (fail)
    go_cut [6, 7] (fun s6 s7 wx => s6 = .bool (winMet (lvlRun t xss seed 4)) ∧ s7 = .int .i64 (winState (lvlRun t xss seed 4)) ∧ Below (w.alloc (chObj s t (.slice a xss.length ca))).heap.size (w.alloc (chObj s t (.slice a xss.length ca))) wx)
    case first =>
      have hbz := (Below.refl (w.alloc (chObj s t (.slice a xss.length ca))).heap.size (w.alloc (chObj s t (.slice a xss.length ca)))).drew
      have c0 := hcb.out.2.1
      have c1 := hcb.out.2.2.1
      have c2 := hcb.out.2.2.2
      obtain ⟨c00, _⟩ := hcb.out
      simp only [Nat.zero_add] at c0 c1 c2
      have ew : IntKind.i64.wrap 16 = 16 := rfl
      have L := Lib.hid (lvl16 t xss seed)
      go_region_with (first
        | (go_at_call 49; (with_reducible refine (drawsOf_at seed t 16 16 _ at16 h0 h1 ht1 (by omega) (by omega)).mono ?_); rintro e w' ⟨dv, rfl, hd, b⟩; have sd := hd.sl; have hbz := hbz.trans (b.mono hbz.size); clear hd; obtain ⟨_, r0, r1, r2⟩ := hcb.out.below hbz; simp only [Nat.zero_add] at r0 r1 r2)
        | (go_at_call 43; (with_reducible refine (window_any s t _ (HA.out _ (bb.trans (hbz.mono bb.size))) sd hv (drawsL_B ht1)).mono ?_); rintro e w' ⟨rfl, b⟩; rw [L.out]; have hbz := hbz.trans (b.mono hbz.size)))
      all_goals (go_wp2_with fail; go_meet; exact ⟨rfl, rfl, hbz⟩)
    case rest =>
      obtain ⟨rfl, rfl, hbc⟩ := hcut
      go_wp2
      go_ret2
      exact ⟨rfl, bb.trans (hbc.mono bb.size)⟩
  · go_enter Try.func48, Try.ntmps48
    go_upto_region 1 with (fail)
    go_cut [6, 7] (fun s6 s7 wx => s6 = .bool (winMet (lvlRun t xss seed 5)) ∧ s7 = .int .i64 (winState (lvlRun t xss seed 5)) ∧ Below (w.alloc (chObj s t (.slice a xss.length ca))).heap.size (w.alloc (chObj s t (.slice a xss.length ca))) wx)
    case first =>
      have hbz := (Below.refl (w.alloc (chObj s t (.slice a xss.length ca))).heap.size (w.alloc (chObj s t (.slice a xss.length ca)))).drew
      have c0 := hcb.out.2.1
      have c1 := hcb.out.2.2.1
      have c2 := hcb.out.2.2.2
      obtain ⟨c00, _⟩ := hcb.out
      simp only [Nat.zero_add] at c0 c1 c2
      have ew : IntKind.i64.wrap 32 = 32 := rfl
      have L := Lib.hid (lvl32 t xss seed)
      go_region_with (first
        | (go_at_call 49; (with_reducible refine (drawsOf_at seed t 32 32 _ at32 h0 h1 ht1 (by omega) (by omega)).mono ?_); rintro e w' ⟨dv, rfl, hd, b⟩; have sd := hd.sl; have hbz := hbz.trans (b.mono hbz.size); clear hd; obtain ⟨_, r0, r1, r2⟩ := hcb.out.below hbz; simp only [Nat.zero_add] at r0 r1 r2)
        | (go_at_call 43; (with_reducible refine (window_any s t _ (HA.out _ (bb.trans (hbz.mono bb.size))) sd hv (drawsL_B ht1)).mono ?_); rintro e w' ⟨rfl, b⟩; rw [L.out]; have hbz := hbz.trans (b.mono hbz.size)))
      all_goals (go_wp2_with fail; go_meet; exact ⟨rfl, rfl, hbz⟩)
    case rest =>
      obtain ⟨rfl, rfl, hbc⟩ := hcut
      go_wp2
      go_ret2
      exact ⟨rfl, bb.trans (hbc.mono bb.size)⟩
  · go_enter Try.func48, Try.ntmps48
    go_upto_region 1 with (fail)
    go_cut [6, 7] (fun s6 s7 wx => s6 = .bool (winMet (lvlRun t xss seed 6)) ∧ s7 = .int .i64 (winState (lvlRun t xss seed 6)) ∧ Below (w.alloc (chObj s t (.slice a xss.length ca))).heap.size (w.alloc (chObj s t (.slice a xss.length ca))) wx)
    case first =>
      have hbz := (Below.refl (w.alloc (chObj s t (.slice a xss.length ca))).heap.size (w.alloc (chObj s t (.slice a xss.length ca)))).drew
      have c0 := hcb.out.2.1
      have c1 := hcb.out.2.2.1
      have c2 := hcb.out.2.2.2
      obtain ⟨c00, _⟩ := hcb.out
      simp only [Nat.zero_add] at c0 c1 c2
      have ew : IntKind.i64.wrap 64 = 64 := rfl
      have L := Lib.hid (lvl64 t xss seed)
      go_region_with (first
        | (go_at_call 49; (with_reducible refine (drawsOf_at seed t 64 64 _ at64 h0 h1 ht1 (by omega) (by omega)).mono ?_); rintro e w' ⟨dv, rfl, hd, b⟩; have sd := hd.sl; have hbz := hbz.trans (b.mono hbz.size); clear hd; obtain ⟨_, r0, r1, r2⟩ := hcb.out.below hbz; simp only [Nat.zero_add] at r0 r1 r2)
        | (go_at_call 43; (with_reducible refine (window_any s t _ (HA.out _ (bb.trans (hbz.mono bb.size))) sd hv (drawsL_B ht1)).mono ?_); rintro e w' ⟨rfl, b⟩; rw [L.out]; have hbz := hbz.trans (b.mono hbz.size)))
      all_goals (go_wp2_with fail; go_meet; exact ⟨rfl, rfl, hbz⟩)
    case rest =>
      obtain ⟨rfl, rfl, hbc⟩ := hcut
      go_wp2
      go_ret2
      exact ⟨rfl, bb.trans (hbc.mono bb.size)⟩
namespace Go.Proofs.Ytghdginjdolgpaa
open Go.RowKit

def winOfR (s t : Int) (xss : List (List Int)) (seed lvl : Int) : Bool × Int × Int :=
  if chainOk s t xss = true then (if (inR seed 0 1000000000 && inR lvl 0 6) = true then (winMet (lvlRun t xss seed lvl.toNat), winState (lvlRun t xss seed lvl.toNat), 0) else (false, 0, 2)) else (false, 0, 1)
def tup3 (r : Bool × Int × Int) : Value := .tuple #[.bool r.1, .int .i64 r.2.1, .int .i64 r.2.2]
theorem winOfR_no {s t : Int} {xss : List (List Int)} {seed lvl : Int} (h : chainOk s t xss = false) : Ending.returned (.tuple #[.bool false, .int .i64 0, .int .i64 1]) = .returned (tup3 (winOfR s t xss seed lvl)) := by
  unfold winOfR; rw [h]; rfl
theorem winOfR_rng {s t : Int} {xss : List (List Int)} {seed lvl : Int} (h : chainOk s t xss = true) (h2 : (inR seed 0 1000000000 && inR lvl 0 6) = false) : Ending.returned (.tuple #[.bool false, .int .i64 0, .int .i64 2]) = .returned (tup3 (winOfR s t xss seed lvl)) := by
  unfold winOfR; rw [if_pos h, h2]; rfl
theorem winOfR_ok {s t : Int} {xss : List (List Int)} {seed : Int} {k : Nat} (h : chainOk s t xss = true) (h2 : (inR seed 0 1000000000 && inR (k : Int) 0 6) = true) :
    Ending.returned (.tuple #[.bool (winMet (lvlRun t xss seed k)), .int .i64 (winState (lvlRun t xss seed k)), .int .i64 0]) = .returned (tup3 (winOfR s t xss seed k)) := by
  unfold winOfR; rw [if_pos h, if_pos h2, Int.toNat_natCast]; rfl

set_option maxHeartbeats 4000000 in
theorem ImplWindowOf_any {v : Value} {xss : List (List Int)} (s t seed lvl : Int) (w : World) (ha : SlII w v xss) :
    Calls Try.prog 15 #[.agg #[.int .i64 s, .int .i64 t, v], .int .i64 seed, .int .i64 lvl] w fun e w' => e = .returned (tup3 (winOfR s t xss seed lvl)) ∧ Below w.heap.size w w' := by
  have HA := Lib.hid (fun W (h : Below w.heap.size w W) => ha.below h)
  obtain ⟨a, ca, us, rfl, _, _, _, _, _⟩ := ha
  generalize hv : chainOk s t xss = V
  have HV := Lib.hid hv
  clear hv
  cases V
  ·
    go_enter Try.func15, Try.ntmps15
    go_wp2_with fail
    refine (ValidChain_any s t _ (HA.out _ (chBelow w s t _))).mono ?_
    rintro e w1 ⟨rfl, b1⟩
    rw [HV.out]
    have hb1 := (chBelow w s t (.slice a xss.length ca)).trans (b1.mono (chBelow w s t (.slice a xss.length ca)).size)
    have C1 := Lib.hid ((chBox w s t (.slice a xss.length ca)).below b1)
    obtain ⟨_, c0, c1, c2⟩ := C1.out
    simp only [Nat.zero_add] at c0 c1 c2
    clear b1
    go_wp2
    go_ret3
    exact ⟨winOfR_no HV.out, hb1⟩
  · generalize hr1 : inR seed 0 1000000000 = r1
    generalize hr2 : inR lvl 0 6 = r2
    have R1 := Lib.hid hr1
    have R2 := Lib.hid hr2
    cases r1 <;> cases r2
    case true.true =>
      obtain ⟨s1, s2⟩ := inR_iff.1 hr1
      obtain ⟨l1, l2⟩ := inR_iff.1 hr2
      clear hr1 hr2
      obtain ⟨k, rfl⟩ : ∃ k : Nat, lvl = (k : Int) := ⟨lvl.toNat, by omega⟩
      go_enter Try.func15, Try.ntmps15
      go_wp2_with fail
      refine (ValidChain_any s t _ (HA.out _ (chBelow w s t _))).mono ?_
      rintro e w1 ⟨rfl, b1⟩
      rw [HV.out]
      have hb1 := (chBelow w s t (.slice a xss.length ca)).trans (b1.mono (chBelow w s t (.slice a xss.length ca)).size)
      have C1 := Lib.hid ((chBox w s t (.slice a xss.length ca)).below b1)
      obtain ⟨_, c0, c1, c2⟩ := C1.out
      simp only [Nat.zero_add] at c0 c1 c2
      clear b1
      go_wp2_with (go_at_call 47; refine (inRange_any _ _ _ _).mono ?_; rintro e w' ⟨rfl, rfl⟩; first | rw [R1.out] | rw [R2.out])
      refine (windowOf_any s t seed k _ (HA.out _ hb1) HV.out (by omega) (by omega) (by omega)).mono ?_
      rintro e w2 ⟨rfl, b2⟩
      go_wp2
      go_ret3
      exact ⟨winOfR_ok HV.out (by rw [R1.out, R2.out]; rfl), hb1.trans (b2.mono hb1.size)⟩
    all_goals
      clear hr1 hr2
      go_enter Try.func15, Try.ntmps15
      go_wp2_with fail
      refine (ValidChain_any s t _ (HA.out _ (chBelow w s t _))).mono ?_
      rintro e w1 ⟨rfl, b1⟩
      rw [HV.out]
      have hb1 := (chBelow w s t (.slice a xss.length ca)).trans (b1.mono (chBelow w s t (.slice a xss.length ca)).size)
      have C1 := Lib.hid ((chBox w s t (.slice a xss.length ca)).below b1)
      obtain ⟨_, c0, c1, c2⟩ := C1.out
      simp only [Nat.zero_add] at c0 c1 c2
      clear b1
      go_wp2_with (go_at_call 47; refine (inRange_any _ _ _ _).mono ?_; rintro e w' ⟨rfl, rfl⟩; first | rw [R1.out] | rw [R2.out])
      go_ret3
      exact ⟨winOfR_rng HV.out (by rw [R1.out, R2.out]; rfl), hb1⟩
namespace Go.Proofs.Ytghdginjdolgpaa
open Go.RowKit Go.Sort
def ixP (p : Int → Bool) : List Int → Nat → Int
  | [], _ => -1
  | x :: r, k => if p x = true then (k : Int) else ixP p r (k + 1)
theorem ixP_any (p : Int → Bool) : ∀ (l : List Int) (k : Nat), decide (0 ≤ ixP p l k) = l.any p
  | [], k => by simp [ixP]
  | x :: r, k => by
    unfold ixP
    by_cases h : p x = true
    · rw [if_pos h]; simp [h]
    · rw [if_neg h, ixP_any p r (k + 1)]; simp [h]
theorem ixP_step {p : Int → Bool} {l : List Int} {k : Nat} (h : k < l.length) : ixP p (l.drop k) k = if p l[k] = true then (k : Int) else ixP p (l.drop (k + 1)) (k + 1) := by
  rw [List.drop_eq_getElem_cons h]; rfl
theorem ixP_bd (p : Int → Bool) : ∀ (l : List Int) (k : Nat), -1 ≤ ixP p l k ∧ ixP p l k < k + l.length
  | [], k => by simp [ixP]; omega
  | x :: r, k => by
    unfold ixP
    have := ixP_bd p r (k + 1)
    split
    · simp; omega
    · simp at this ⊢; omega

def ixRow (p : List Int → Bool) : List (List Int) → Nat → Int
  | [], _ => -1
  | x :: r, k => if p x = true then (k : Int) else ixRow p r (k + 1)
theorem ixRow_any (p : List Int → Bool) : ∀ (l : List (List Int)) (k : Nat), decide (0 ≤ ixRow p l k) = l.any p
  | [], k => by simp [ixRow]
  | x :: r, k => by
    unfold ixRow
    by_cases h : p x = true
    · rw [if_pos h]; simp [h]
    · rw [if_neg h, ixRow_any p r (k + 1)]; simp [h]
theorem ixRow_step {p : List Int → Bool} {l : List (List Int)} {k : Nat} (h : k < l.length) : ixRow p (l.drop k) k = if p l[k] = true then (k : Int) else ixRow p (l.drop (k + 1)) (k + 1) := by
  rw [List.drop_eq_getElem_cons h]; rfl
theorem ixRow_bd (p : List Int → Bool) : ∀ (l : List (List Int)) (k : Nat), -1 ≤ ixRow p l k ∧ ixRow p l k < k + l.length
  | [], k => by simp [ixRow]; omega
  | x :: r, k => by
    unfold ixRow
    have := ixRow_bd p r (k + 1)
    split
    · simp; omega
    · simp at this ⊢; omega
end Go.Proofs.Ytghdginjdolgpaa
namespace Go.Proofs.Ytghdginjdolgpaa
open Go.RowKit Go.Sort

set_option maxHeartbeats 1000000 in
theorem IndexFuncI_any {u : Value} {xs : List Int} (cap : Value) (p : Int → Bool) (w : World) (ha : SlI w u xs)
    (hf : ∀ W x, Below w.heap.size w W → x ∈ xs → Calls Try.prog 41 #[.int .i64 x, cap] W fun e w' => e = .returned (.bool (p x)) ∧ Below W.heap.size W w') :
    Calls Try.prog 73 #[u, .func (.func 41) #[] #[cap]] w fun e w' => e = .returned (.int .i64 (ixP p xs 0)) ∧ Below w.heap.size w w' := by
  obtain ⟨a, ca, rfl, hca, hca', ha⟩ := ha
  unfold maxLen at hca'
  have HF := Lib.hid hf
  clear hf
  go_enter Try.func73, Try.ntmps73
  go_wp2
  go_loopw [5, 8] (fun _ i wr => ∃ k : Nat, k ≤ xs.length ∧ i = .int .i64 k ∧ Hid (ixP p xs 0 = ixP p (xs.drop k) k) ∧ Below w.heap.size w wr) (fun _ i _ => xs.length - (intOf i).toNat)
  case atStart => exact ⟨0, Nat.zero_le _, rfl, rfl, Below.refl _ _⟩
  case round =>
    obtain ⟨k, hk, rfl, hno, hbw⟩ := hrel
    by_cases hlt : k < xs.length
    · obtain ⟨b, off, rfl, gc⟩ := (ha.below hbw).one (i64s_get hlt)
      have i1 : (k : Int) < (xs.length : Int) := by omega
      have hst := ixP_step (p := p) hlt
      have HS := Lib.hid hst
      clear hst
      generalize hp : p xs[k] = P
      have HP := Lib.hid hp
      clear hp
      cases P
      · go_wp2_with fail
        refine (HF.out _ xs[k] hbw (List.getElem_mem hlt)).mono ?_
        rintro e w2 ⟨rfl, b2⟩
        rw [HP.out]
        have bq := hbw.trans (b2.mono hbw.size)
        go_wp2
        go_roundw
        case rel => exact ⟨k + 1, by omega, by go_num, by unfold Hid at *; rw [hno, HS, HP]; rfl, bq⟩
        case measure => simp [intOf]; omega
      · go_wp2_with fail
        refine (HF.out _ xs[k] hbw (List.getElem_mem hlt)).mono ?_
        rintro e w2 ⟨rfl, b2⟩
        rw [HP.out]
        have bq := hbw.trans (b2.mono hbw.size)
        go_wp2
        go_ret
        exact ⟨ri (by rw [hno.out, HS.out, HP.out]; rfl), bq⟩
    · obtain rfl : k = xs.length := by omega
      go_wp2
      go_ret
      exact ⟨ri (by rw [hno.out]; simp [ixP]), hbw⟩
set_option maxHeartbeats 400000 in
theorem ContainsFuncI_any {u : Value} {xs : List Int} (cap : Value) (p : Int → Bool) (w : World) (ha : SlI w u xs)
    (hf : ∀ W x, Below w.heap.size w W → x ∈ xs → Calls Try.prog 41 #[.int .i64 x, cap] W fun e w' => e = .returned (.bool (p x)) ∧ Below W.heap.size W w') :
    Calls Try.prog 40 #[u, .func (.func 41) #[] #[cap]] w fun e w' => e = .returned (.bool (xs.any p)) ∧ Below w.heap.size w w' := by
  have hx := ixP_any p xs 0
  obtain ⟨hb0, hb1⟩ := ixP_bd p xs 0
  obtain ⟨a, ca, rfl, hca, hca', _⟩ := id ha
  unfold maxLen at hca'
  have HF := Lib.hid hf
  have HX := Lib.hid hx
  clear hf hx
  go_enter Try.func40, Try.ntmps40
  go_wp2_with fail
  refine (IndexFuncI_any cap p _ ha HF.out).mono ?_
  rintro e w2 ⟨rfl, b2⟩
  go_wp2
  go_ret
  exact ⟨rb HX.out, b2⟩

set_option maxHeartbeats 400000 in
theorem isDraw_any {v : Value} {xss : List (List Int)} (s t d : Int) (w : World) (ha : SlII w v xss) (ht : 1 ≤ t) (ht2 : t ≤ 60) :
    Calls Try.prog 42 #[.agg #[.int .i64 s, .int .i64 t, v], .int .i64 d] w fun e w' => e = .returned (.bool (inR d 0 (t - 1))) ∧ Below w.heap.size w w' := by
  obtain ⟨a, ca, us, rfl, _⟩ := id ha
  clear ha
  go_enter Try.func42, Try.ntmps42
  go_wp2_with (go_at_call 47; refine (inRange_any _ _ _ _).mono ?_; rintro e w' ⟨rfl, rfl⟩)
  go_ret
  exact ⟨rfl, chBelow w s t _⟩
set_option maxHeartbeats 400000 in
theorem winClosure_any {v : Value} {xss : List (List Int)} (b : Nat) (s t d : Int) (w : World) (hc : ChainAt w b 0 s t v) (ha : SlII w v xss) (ht : 1 ≤ t) (ht2 : t ≤ 60) :
    Calls Try.prog 41 #[.int .i64 d, .pointer (some ⟨b, 0, none⟩)] w fun e w' => e = .returned (.bool (!inR d 0 (t - 1))) ∧ Below w.heap.size w w' := by
  obtain ⟨a, ca, us, rfl, _⟩ := id ha
  obtain ⟨c00, c0, c1, c2⟩ := hc
  simp only [Nat.zero_add] at c0 c1 c2
  go_enter Try.func41, Try.ntmps41
  go_wp2_with fail
  refine (isDraw_any s t d _ ha ht ht2).mono ?_
  rintro e w2 ⟨rfl, b2⟩
  go_wp2
  go_ret
  exact ⟨rfl, b2⟩

def drawsOk (t : Int) (draws : List Int) : Bool := decide (draws.length ≤ 64) && !(draws.any fun d => !inR d 0 (t - 1))
def winByR (s t : Int) (xss : List (List Int)) (draws : List Int) : Bool × Int × Int :=
  if chainOk s t xss = true then (if drawsOk t draws = true then (winMet (runAll xss draws xss.length), winState (runAll xss draws xss.length), 0) else (false, 0, 2)) else (false, 0, 1)
theorem winByR_no {s t : Int} {xss : List (List Int)} {d : List Int} (h : chainOk s t xss = false) : Ending.returned (.tuple #[.bool false, .int .i64 0, .int .i64 1]) = .returned (tup3 (winByR s t xss d)) := by
  unfold winByR; rw [h]; rfl
theorem winByR_rng {s t : Int} {xss : List (List Int)} {d : List Int} (h : chainOk s t xss = true) (h2 : drawsOk t d = false) : Ending.returned (.tuple #[.bool false, .int .i64 0, .int .i64 2]) = .returned (tup3 (winByR s t xss d)) := by
  unfold winByR; rw [if_pos h, h2]; rfl
theorem winByR_yes {s t : Int} {xss : List (List Int)} {d : List Int} (h : chainOk s t xss = true) (h2 : drawsOk t d = true) :
    Ending.returned (.tuple #[.bool (winMet (runAll xss d xss.length)), .int .i64 (winState (runAll xss d xss.length)), .int .i64 0]) = .returned (tup3 (winByR s t xss d)) := by
  unfold winByR; rw [if_pos h, if_pos h2]; rfl
theorem drawsOk_B {t : Int} {d : List Int} (h : drawsOk t d = true) : DrawsB t d := by
  unfold drawsOk at h
  rw [Bool.and_eq_true] at h
  have h2 := h.2
  intro x hx
  simp at h2
  have := inR_iff.1 (h2 x hx)
  omega

set_option maxHeartbeats 4000000 in
theorem ImplWindowByDraws_any {v dv : Value} {xss : List (List Int)} {draws : List Int} (s t : Int) (w : World) (ha : SlII w v xss) (hd : SlI w dv draws) :
    Calls Try.prog 11 #[.agg #[.int .i64 s, .int .i64 t, v], dv] w fun e w' => e = .returned (tup3 (winByR s t xss draws)) ∧ Below w.heap.size w w' := by
  have hmf : ∀ (fn : Fn) (first cap : Array Value) (w : World), (Instr.makeFunc fn first cap).run Try.prog w = .ok (.func fn first cap) w := fun _ _ _ _ => rfl
  have HA := Lib.hid (fun W (h : Below w.heap.size w W) => ha.below h)
  have HDR := Lib.hid (fun W (h : Below w.heap.size w W) => hd.below h)
  obtain ⟨a, ca, us, rfl, _, _, _, _, _⟩ := ha
  obtain ⟨da, dc, rfl, dl, dm, _⟩ := hd
  unfold maxLen at dm
  generalize hv : chainOk s t xss = V
  have HV := Lib.hid hv
  have bx := chBelow w s t (.slice a xss.length ca)
  have X := Lib.hid (chBox w s t (.slice a xss.length ca))
  cases V
  · clear hv
    go_enter Try.func11, Try.ntmps11
    go_wp2_with fail
    refine (ValidChain_any s t _ (HA.out _ bx)).mono ?_
    rintro e w1 ⟨rfl, b1⟩
    rw [HV.out]
    have hb1 := bx.trans (b1.mono bx.size)
    go_wp2
    go_ret3
    exact ⟨winByR_no HV.out, hb1⟩
  · obtain ⟨_, ht, _⟩ := chainOk_parts0 hv
    have ht1 : 1 ≤ t := ht.1
    have ht2 : t ≤ 60 := ht.2
    clear hv ht
    by_cases h64 : 64 < draws.length
    · have hno : drawsOk t draws = false := by unfold drawsOk; rw [decide_eq_false (by omega)]; rfl
      have HNO := Lib.hid hno
      clear hno
      go_enter Try.func11, Try.ntmps11
      go_wp2_with fail
      refine (ValidChain_any s t _ (HA.out _ bx)).mono ?_
      rintro e w1 ⟨rfl, b1⟩
      rw [HV.out]
      have hb1 := bx.trans (b1.mono bx.size)
      go_wp2
      go_ret3
      exact ⟨winByR_rng HV.out HNO.out, hb1⟩
    · have h64' : draws.length ≤ 64 := by omega
      generalize hA : (draws.any fun d => !inR d 0 (t - 1)) = A
      have HAN := Lib.hid hA
      have hok : drawsOk t draws = !A := by unfold drawsOk; rw [decide_eq_true h64', hA]; rfl
      have HOK := Lib.hid hok
      clear hA hok
      cases A
      · go_enter Try.func11, Try.ntmps11
        go_wp2_with fail
        refine (ValidChain_any s t _ (HA.out _ bx)).mono ?_
        rintro e w1 ⟨rfl, b1⟩
        rw [HV.out]
        have hb1 := bx.trans (b1.mono bx.size)
        have X1 := Lib.hid (X.out.below b1)
        clear b1
        go_wp2_with fail
        refine (ContainsFuncI_any _ (fun d => !inR d 0 (t - 1)) _ (HDR.out _ hb1) (fun W x hW _ => winClosure_any w.heap.size s t x W (X1.out.below hW) (HA.out _ (hb1.trans (hW.mono hb1.size))) ht1 ht2)).mono ?_
        rintro e w2 ⟨rfl, b2⟩
        rw [HAN.out]
        have hb2 := hb1.trans (b2.mono hb1.size)
        have X2 := X1.out.below b2
        obtain ⟨c00, c0, c1, c2⟩ := X2
        simp only [Nat.zero_add] at c0 c1 c2
        clear b2
        go_wp2_with fail
        refine (window_any s t _ (HA.out _ hb2) (HDR.out _ hb2) HV.out (drawsOk_B HOK.out)).mono ?_
        rintro e w3 ⟨rfl, b3⟩
        have hb3 := hb2.trans (b3.mono hb2.size)
        go_wp2
        go_ret3
        exact ⟨winByR_yes HV.out HOK.out, hb3⟩
      · go_enter Try.func11, Try.ntmps11
        go_wp2_with fail
        refine (ValidChain_any s t _ (HA.out _ bx)).mono ?_
        rintro e w1 ⟨rfl, b1⟩
        rw [HV.out]
        have hb1 := bx.trans (b1.mono bx.size)
        have X1 := Lib.hid (X.out.below b1)
        clear b1
        go_wp2_with fail
        refine (ContainsFuncI_any _ (fun d => !inR d 0 (t - 1)) _ (HDR.out _ hb1) (fun W x hW _ => winClosure_any w.heap.size s t x W (X1.out.below hW) (HA.out _ (hb1.trans (hW.mono hb1.size))) ht1 ht2)).mono ?_
        rintro e w2 ⟨rfl, b2⟩
        rw [HAN.out]
        have hb2 := hb1.trans (b2.mono hb1.size)
        go_wp2
        go_ret3
        exact ⟨winByR_rng HV.out HOK.out, hb2⟩

theorem any_take {p : Int → Bool} {l : List Int} {k : Nat} (h : (l.take k).any p = false) (hk : k < l.length) (he : p l[k] = false) : (l.take (k + 1)).any p = false := by
  rw [List.take_succ_eq_append_getElem hk, List.any_append, h]; simp [he]
theorem any_at {p : Int → Bool} {l : List Int} {k : Nat} (hk : k < l.length) (he : p l[k] = true) : l.any p = true := by
  rw [List.any_eq_true]; exact ⟨_, List.getElem_mem hk, he⟩
end Go.Proofs.Ytghdginjdolgpaa
namespace Go.Proofs.Ytghdginjdolgpaa
open Go.RowKit Go.Sort
set_option maxHeartbeats 1000000 in
theorem IndexFuncRun_any {u : Value} {xs : List Int} (cap0 : Value) (p : Int → Bool) (w : World) (ha : SlI w u xs)
    (hf : ∀ W x, Below w.heap.size w W → x ∈ xs → Calls Try.prog 45 #[.int .i64 x, cap0] W fun e w' => e = .returned (.bool (p x)) ∧ Below W.heap.size W w') :
    Calls Try.prog 73 #[u, .func (.func 45) #[] #[cap0]] w fun e w' => e = .returned (.int .i64 (ixP p xs 0)) ∧ Below w.heap.size w w' := by
  obtain ⟨a, ca, rfl, hca, hca', ha⟩ := ha
  unfold maxLen at hca'
  have HF := Lib.hid hf
  clear hf
  go_enter Try.func73, Try.ntmps73
  go_wp2
  go_loopw [5, 8] (fun _ i wr => ∃ k : Nat, k ≤ xs.length ∧ i = .int .i64 k ∧ Hid (ixP p xs 0 = ixP p (xs.drop k) k) ∧ Below w.heap.size w wr) (fun _ i _ => xs.length - (intOf i).toNat)
  case atStart => exact ⟨0, Nat.zero_le _, rfl, rfl, Below.refl _ _⟩
  case round =>
    obtain ⟨k, hk, rfl, hno, hbw⟩ := hrel
    by_cases hlt : k < xs.length
    · obtain ⟨b, off, rfl, gc⟩ := (ha.below hbw).one (i64s_get hlt)
      have i1 : (k : Int) < (xs.length : Int) := by omega
      have hst := ixP_step (p := p) hlt
      have HS := Lib.hid hst
      clear hst
      generalize hp : p xs[k] = P
      have HP := Lib.hid hp
      clear hp
      cases P
      · go_wp2_with fail
        refine (HF.out _ xs[k] hbw (List.getElem_mem hlt)).mono ?_
        rintro e w2 ⟨rfl, b2⟩
        rw [HP.out]
        have bq := hbw.trans (b2.mono hbw.size)
        go_wp2
        go_roundw
        case rel => exact ⟨k + 1, by omega, by go_num, by unfold Hid at *; rw [hno, HS, HP]; rfl, bq⟩
        case measure => simp [intOf]; omega
      · go_wp2_with fail
        refine (HF.out _ xs[k] hbw (List.getElem_mem hlt)).mono ?_
        rintro e w2 ⟨rfl, b2⟩
        rw [HP.out]
        have bq := hbw.trans (b2.mono hbw.size)
        go_wp2
        go_ret
        exact ⟨ri (by rw [hno.out, HS.out, HP.out]; rfl), bq⟩
    · obtain rfl : k = xs.length := by omega
      go_wp2
      go_ret
      exact ⟨ri (by rw [hno.out]; simp [ixP]), hbw⟩
set_option maxHeartbeats 400000 in
theorem ContainsFuncRun_any {u : Value} {xs : List Int} (cap0 : Value) (p : Int → Bool) (w : World) (ha : SlI w u xs)
    (hf : ∀ W x, Below w.heap.size w W → x ∈ xs → Calls Try.prog 45 #[.int .i64 x, cap0] W fun e w' => e = .returned (.bool (p x)) ∧ Below W.heap.size W w') :
    Calls Try.prog 40 #[u, .func (.func 45) #[] #[cap0]] w fun e w' => e = .returned (.bool (xs.any p)) ∧ Below w.heap.size w w' := by
  have hx := ixP_any p xs 0
  obtain ⟨hb0, hb1⟩ := ixP_bd p xs 0
  obtain ⟨a, ca, rfl, hca, hca', _⟩ := id ha
  unfold maxLen at hca'
  have HF := Lib.hid hf
  have HX := Lib.hid hx
  clear hf hx
  go_enter Try.func40, Try.ntmps40
  go_wp2_with fail
  refine (IndexFuncRun_any cap0 p _ ha HF.out).mono ?_
  rintro e w2 ⟨rfl, b2⟩
  go_wp2
  go_ret
  exact ⟨rb HX.out, b2⟩
end Go.Proofs.Ytghdginjdolgpaa
namespace Go.Proofs.Ytghdginjdolgpaa
open Go.RowKit Go.Sort
theorem OwnI.lit1 (w : World) {base : Nat} (hb : base ≤ w.heap.size) (x : Int) : OwnI (w.alloc (.cells #[.int .i64 x] 2)) base (.slice (some ⟨w.heap.size, 0, none⟩) 1 1) [x] :=
  World.ownsRow_lit (base := base) (e := 2) (size := 1) w #[.int .i64 x] 1 hb (by simp [maxLen]) (by simp)
theorem isState_c {u : Value} (st t x : Int) (w : World) (h1 : 1 ≤ st) (h2 : st ≤ 1000) :
    Calls Try.prog 44 #[.agg #[.int .i64 st, .int .i64 t, u], .int .i64 x] w fun e w' => e = .returned (.bool (inR x 0 (st - 1))) ∧ Below w.heap.size w w' := by
  go_enter Try.func44, Try.ntmps44
  go_wp2_with (go_at_call 47; refine (inRange_any _ _ _ _).mono ?_; rintro e w' ⟨rfl, rfl⟩)
  go_ret
  exact ⟨rfl, (Below.refl _ _).alloc (Nat.le_refl _) _⟩
theorem step_appJ {ops : Array Oper} {o : Oper} {a : Act} {K : Act → World → Prop} {Q : Exit → Act → World → Prop} {E : Prop} {w w0 w1 : World} (hg : o.guard = none) (s x : Operand)
    (ho : o.op = .call { callee := .builtin .append, args := #[s, x], argTypes := #[28, 28] })
    {g : Nat} {v : Value} {xs : List Int} {y : Int} (hs : a.eval s = v) (hown : OwnI w1 w0.heap.size v xs) (h01 : Below w0.heap.size w0 w1) (h1w : Below w1.heap.size w1 w) (hx : a.eval x = .slice (some ⟨g, 0, none⟩) 1 1) (hc : w.cell? ⟨g, 0, none⟩ = some (.int .i64 y)) (hlen : xs.length < 16777216)
    (h : ∀ v' w', OwnI w' w0.heap.size v' (xs ++ [y]) → Below w0.heap.size w0 w' → K (a.put o.dst v') w') : if Region.wanted o (yielded ops a.tmps) = true then Oper.wp Try.prog o a w K Q else E := by
  have h0w := h01.trans (h1w.mono h01.size)
  have hown' := hown.below h1w
  exact stepAppI w s x hg ho hs hown' hx hc hlen h0w.size (fun v' w' k1 k2 => h v' w' k1 (h0w.trans (hown'.grown k2 h0w.size)))

set_option maxHeartbeats 400000 in
theorem runClosure_any {v : Value} {xss : List (List Int)} (b : Nat) (s t d : Int) (w : World) (hc : ChainAt w b 0 s t v) (ha : SlII w v xss) (ht : 1 ≤ t) (ht2 : t ≤ 60) :
    Calls Try.prog 45 #[.int .i64 d, .pointer (some ⟨b, 0, none⟩)] w fun e w' => e = .returned (.bool (!inR d 0 (t - 1))) ∧ Below w.heap.size w w' := by
  obtain ⟨a, ca, us, rfl, _⟩ := id ha
  obtain ⟨c00, c0, c1, c2⟩ := hc
  simp only [Nat.zero_add] at c0 c1 c2
  go_enter Try.func45, Try.ntmps45
  go_wp2_with fail
  refine (isDraw_any s t d _ ha ht ht2).mono ?_
  rintro e w2 ⟨rfl, b2⟩
  go_wp2
  go_ret
  exact ⟨rfl, b2⟩
theorem drawsB_any {t : Int} {ds : List Int} (h : DrawsB t ds) : (ds.any fun d => !inR d 0 (t - 1)) = false := by
  rw [List.any_eq_false]
  intro d hd
  have := h d hd
  rw [show inR d 0 (t - 1) = true from inR_iff.2 (by omega)]
  simp
/-- a run's state, as a number -/
theorem run_at {s t : Int} {xss : List (List Int)} (h : chainOk s t xss = true) {k : Nat} (hk : k < xss.length) {ds : List Int} (hd : DrawsB t ds) {j : Nat} (hj : j ≤ ds.length) : ∃ y : Nat, y < xss.length ∧ (runN xss k ds j).getD j 0 = (y : Int) := by
  have hl : j < (runN xss (k : Int) ds j).length := by rw [runN_len]; omega
  have := runN_in h (x := (k : Int)) ⟨by omega, by omega⟩ hd j hj _ (List.getElem_mem hl)
  refine ⟨(runN xss (k : Int) ds j)[j].toNat, by omega, ?_⟩
  rw [gD_at hl]; omega
set_option maxRecDepth 100000 in
set_option maxHeartbeats 4000000 in
theorem ImplRunByDraws_any {v dv : Value} {xss : List (List Int)} {ds : List Int} (s t : Int) (k : Nat) (w : World) (ha : SlII w v xss) (hd : SlI w dv ds) (hv : chainOk s t xss = true) (hk : k < xss.length) (hdb : DrawsB t ds) (hl : ds.length ≤ 200) :
    Calls Try.prog 12 #[.agg #[.int .i64 s, .int .i64 t, v], .int .i64 k, dv] w fun e w' => ∃ u, e = .returned (.tuple #[u, .int .i64 0]) ∧ OwnI w' w.heap.size u (runN xss k ds ds.length) ∧ Below w.heap.size w w' := by
  have hmf : ∀ (fn : Fn) (first cap : Array Value) (w : World), (Instr.makeFunc fn first cap).run Try.prog w = .ok (.func fn first cap) w := fun _ _ _ _ => rfl
  have HA := Lib.hid (fun W (h : Below w.heap.size w W) => ha.below h)
  have HDR := Lib.hid (fun W (h : Below w.heap.size w W) => hd.below h)
  obtain ⟨a, ca, us, rfl, _, _, _, _, _⟩ := ha
  obtain ⟨da, dc, rfl, dl, dm, _⟩ := hd
  unfold maxLen at dm
  obtain ⟨⟨hs1, hs2⟩, ⟨ht1, ht2⟩, hls, _⟩ := chainOk_parts0 hv
  have bx := chBelow w s t (.slice a xss.length ca)
  have X := Lib.hid (chBox w s t (.slice a xss.length ca))
  have E1 := Lib.hid (show inR (k : Int) 0 (s - 1) = true from inR_iff.2 (by omega))
  have HAN := Lib.hid (drawsB_any hdb)
  have HV := Lib.hid hv
  have HDB := Lib.hid hdb
  have RA := Lib.hid (fun j (hj : j ≤ ds.length) => run_at hv hk hdb hj)
  clear hv hdb hls
  go_enter Try.func12, Try.ntmps12
  go_wp2_with fail
  refine (ValidChain_any s t _ (HA.out _ bx)).mono ?_
  rintro e w1 ⟨rfl, b1⟩
  rw [HV.out]
  have hb1 := bx.trans (b1.mono bx.size)
  have X1 := Lib.hid (X.out.below b1)
  obtain ⟨c00, c0, c1, c2⟩ := X1.out
  simp only [Nat.zero_add] at c0 c1 c2
  clear b1
  go_wp2_with fail
  refine (isState_c s t k _ hs1 (by omega)).mono ?_
  rintro e w2 ⟨rfl, b2⟩
  rw [E1.out]
  have hb2 := hb1.trans (b2.mono hb1.size)
  have X2 := Lib.hid (X1.out.below b2)
  clear c00 c0 c1 c2 b2
  go_wp2_with fail
  refine (ContainsFuncRun_any _ (fun d => !inR d 0 (t - 1)) _ (HDR.out _ hb2) (fun W x hW _ => runClosure_any w.heap.size s t x W (X2.out.below hW) (HA.out _ (hb2.trans (hW.mono hb2.size))) ht1 ht2)).mono ?_
  rintro e w3 ⟨rfl, b3⟩
  rw [HAN.out]
  have hb3 := hb2.trans (b3.mono hb2.size)
  have X3 := Lib.hid (X2.out.below b3)
  have own1 := OwnI.lit1 w3 (Nat.le_refl _) (k : Int)
  have O1 := Lib.hid own1
  clear b3 own1
  go_wp2
  go_loopw [8, 10, 32] (fun u _ i wr => ∃ j : Nat, j ≤ ds.length ∧ i = .int .i64 j ∧ OwnI wr w3.heap.size u (runN xss k ds j) ∧ Below w3.heap.size w3 wr) (fun _ _ i _ => ds.length - (intOf i).toNat)
  case atStart => exact ⟨0, Nat.zero_le _, rfl, O1.out, (Below.refl _ _).alloc (Nat.le_refl _) _⟩
  case round =>
    obtain ⟨j, hj, rfl, hown, hbr⟩ := hrel
    have hbw := hb3.trans (hbr.mono hb3.size)
    by_cases hlt : j < ds.length
    · obtain ⟨_, _, he, _, _, rd⟩ := HDR.out _ hbw
      simp only [Value.slice.injEq] at he
      obtain ⟨rfl, _, rfl⟩ := he
      obtain ⟨db, doff, rfl, gd⟩ := rd.one (i64s_get hlt)
      have hdd := HDB.out _ (List.getElem_mem hlt)
      obtain ⟨y, hy, hyv⟩ := RA.out j hj
      have hnx : runN xss k ds (j + 1) = runN xss k ds j ++ [nxt xss ds[j] y] := by
        conv => lhs; unfold runN
        rw [hyv, gD_at hlt]
      have hll := runN_len xss (k : Int) ds j
      generalize runN xss (k : Int) ds j = l at hown hyv hnx hll
      generalize ds[j] = d at gd hdd hnx
      rcases hown.forms with ⟨_, h0⟩ | ⟨g, gc, rfl, hg, hg1, hgc, hgc2⟩
      · rw [h0] at hll; simp at hll
      have hjl : j < l.length := by omega
      have gl := hown.cell hjl
      rw [gD_at hjl] at hyv
      rw [hyv] at gl
      unfold maxLen at hgc2
      obtain ⟨m, hm⟩ : ∃ m, l.length = m := ⟨_, rfl⟩
      rw [hm] at hown hgc ⊢
      have HO := Lib.hid hown
      have HM := Lib.hid hm
      have hmj : m = j + 1 := by omega
      have r1 : IntKind.i64.wrap ((m : Int) - 1) = (j : Int) := by rw [IntWalk.i64_in _ (by omega)]; omega
      have i0 : (0 : Int) ≤ (j : Int) := by omega
      have i1 : (j : Int) < (m : Int) := by omega
      have i2 : (j : Int) < (ds.length : Int) := by omega
      have HLM := Lib.hid (show l.length < 16777216 by omega)
      have HNX := Lib.hid hnx
      have HBR := Lib.hid hbr
      have HBW := Lib.hid hbw
      have HDD := Lib.hid hdd
      obtain ⟨c00, c0, c1, c2⟩ := X3.out.below hbr
      simp only [Nat.zero_add] at c0 c1 c2
      have k0 := fun d os => cell_regrown c0 d os
      have k1 := fun d os => cell_regrown c1 d os
      have k2 := fun d os => cell_regrown c2 d os
      have k3 := fun d os => cell_regrown gl d os
      clear hown hm hmj hll hyv hnx hdd rd hbr hbw c00
      go_wp2_with fail
      have hlm := HLM.out
      go_region_law (first
        | (refine step_appJ (w0 := w3) (w1 := w1) rfl (.tmp 36) (.tmp 46) rfl (y := nxt xss d y) rfl o1 c1 (by (repeat (first | exact Below.refl _ _ | refine Below.drew ?_ | refine Below.alloc ?_ (by simp) _))) rfl (by first | (simp [go_sem]; done) | fail) hlm ?_; intro v5 w5 o5 hb5; rw [← HNX.out] at o5)
        | (go_simp; go_at_call 46; refine (stepByDraw_b s t d y _ ((HA.out _ HBW.out).below (by (repeat (first | exact Below.refl _ _ | refine Below.drew ?_ | refine Below.alloc ?_ (by simp) _)))) HV.out HDD.out hy).mono ?_; rintro e w1 ⟨rfl, b1⟩; have bw1 := below_of (a := wr) (by (repeat (first | exact Below.refl _ _ | refine Below.drew ?_ | refine Below.alloc ?_ (by simp) _))) b1; have o1 := HO.out.below bw1; have c1 := HBR.out.trans (bw1.mono HBR.out.size))
        | fail "no arm")
      all_goals
        go_wp2
        go_roundw
        case rel => exact ⟨j + 1, by omega, by go_num, o5, hb5⟩
        case measure => simp [intOf]; omega
    · obtain rfl : j = ds.length := by omega
      go_wp2
      go_ret2
      exact ⟨_, rfl, hown.lower hb3.size, hbw⟩
end Go.Proofs.Ytghdginjdolgpaa
namespace Go.Proofs.Ytghdginjdolgpaa
open Go.RowKit Go.Sort
theorem chain_drawn {n t : Nat} {xss : List (List Int)} (h1 : 1 ≤ n) (h2 : n ≤ 6) (t1 : 1 ≤ t) (t2 : t ≤ 60) (hl : xss.length = n) (hr : ∀ r ∈ xss, r.length = n ∧ (∀ x ∈ r, 0 ≤ x ∧ x ≤ (t : Int)) ∧ r.sum = (t : Int)) : chainOk n t xss = true := by
  unfold chainOk
  rw [Bool.and_eq_true, Bool.and_eq_true, Bool.and_eq_true]
  refine ⟨inR_iff.2 (by omega), inR_iff.2 (by omega), by simp [hl], ?_⟩
  unfold rowsOk
  rw [List.all_eq_true]
  intro r hm
  obtain ⟨a, b, c⟩ := hr r hm
  unfold rowOk inAll
  rw [Bool.and_eq_true, Bool.and_eq_true, List.all_eq_true]
  exact ⟨by simp [a], fun x hx => inR_iff.2 (by have := b x hx; omega), by simp [c]⟩
/-- a chain under work -/
structure Box3 (w : World) (b : Nat) (n t : Int) (v : Value) : Prop where
  c : CellsAt w b [.int .i64 n, .int .i64 t, v]
  f : ∀ i, w.frozen? ⟨b, i, none⟩ = false
theorem Box3.fs {S : Nat → Prop} {w w' : World} {b : Nat} {n t : Int} {v : Value} (h : Box3 w b n t v) (hf : Fs S w w') (hS : ¬ S b) : Box3 w' b n t v :=
  ⟨h.c.fs hf hS, fun i => by rw [hf.frozen (p := ⟨b, i, none⟩) h.c.1 hS]; exact h.f i⟩
theorem Box3.new (w : World) (n t : Int) (v : Value) : Box3 (w.alloc (.cells #[.int .i64 n, .int .i64 t, v] 26)) w.heap.size n t v :=
  ⟨CellsAt.new w [.int .i64 n, .int .i64 t, v] 26, fun i => by simp [go_sem]⟩
theorem Box3.set {w : World} {b : Nat} {n t : Int} {v : Value} (h : Box3 w b n t v) (u : Value) : Box3 (w.setCell ⟨b, 2, none⟩ u) b n t u := by
  have c0 := h.c.get 0 _ rfl
  have c1 := h.c.get 1 _ rfl
  have c2 := h.c.get 2 _ rfl
  refine ⟨⟨by simpa using h.c.1, fun i v hv => ?_⟩, fun i => by simpa using h.f i⟩
  match i, hv with
  | 0, hv => simp at hv; subst hv; simp [go_sem, c0]
  | 1, hv => simp at hv; subst hv; simp [go_sem, c1]
  | 2, hv => simp at hv; subst hv; simp [go_sem, c2]
theorem OwnIIB.fsJ {S : Nat → Prop} {w w' : World} {base B : Nat} {v : Value} {xss : List (List Int)} (h : OwnIIB w base B v xss) (hf : Fs S w w') (hS : ∀ k, S k → k < base) : OwnIIB w' base B v xss := by
  obtain ⟨vs, h1, h2, h3⟩ := h
  exact ⟨vs, ownsRow_fs h1 hf hS, ⟨h2.1, fun i u xs hu hx => ownsRow_fs (h2.2.1 i u xs hu hx) hf hS, h2.2.2⟩, h3⟩
theorem OwnII.formJ {w : World} {base : Nat} {v : Value} {xss : List (List Int)} (h : OwnII w base v xss) : ∃ a n c, v = .slice a n c ∧ Hid (n = xss.length) := by
  obtain ⟨a, ca, us, rfl, _⟩ := h.sl
  exact ⟨a, _, ca, rfl, rfl⟩
theorem Fs.set1 (w : World) (r i : Nat) (x : Value) : Fs (fun k => k = r) w (w.setCell ⟨r, i, none⟩ x) := Fs.set (S := fun k => k = r) (Fs.refl _ _) (a := ⟨r, i, none⟩) rfl _
theorem Fs.set3 (w : World) (r : Nat) (x y z : Value) : Fs (fun k => k = r) w (((w.setCell ⟨r, 0, none⟩ x).setCell ⟨r, 1, none⟩ y).setCell ⟨r, 2, none⟩ z) :=
  Fs.set (S := fun k => k = r) (Fs.set (S := fun k => k = r) (Fs.set (S := fun k => k = r) (Fs.refl _ _) (a := ⟨r, 0, none⟩) rfl _) (a := ⟨r, 1, none⟩) rfl _) (a := ⟨r, 2, none⟩) rfl _
theorem Fs.of_belowB {w w' : World} {B : Nat} (h : Below B w w') : Fs (fun k => B ≤ k) w w' := ⟨h.os, h.tape, h.output, h.size, fun k hk hx => h.block k (by omega)⟩
theorem step_appRowJ {ops : Array Oper} {o : Oper} {a : Act} {K : Act → World → Prop} {Q : Exit → Act → World → Prop} {E : Prop} {w w4 : World} (hg : o.guard = none) (s x : Operand)
    (ho : o.op = .call { callee := .builtin .append, args := #[s, x], argTypes := #[24, 24] })
    {base B g : Nat} {v u : Value} {xss : List (List Int)} {xs : List Int} (hs : a.eval s = v) (hown : OwnIIB w4 base B v xss) (hu : OwnI w4 base u xs) (hB : ∀ g, u.ownBlock = some g → B ≤ g) (h4w : Below w4.heap.size w4 w)
    (hx : a.eval x = .slice (some ⟨g, 0, none⟩) 1 1) (hc : w.cell? ⟨g, 0, none⟩ = some u) (hlen : xss.length < 16777216) (hbase : base ≤ w4.heap.size)
    (h : ∀ v' w', OwnII w' base v' (xss ++ [xs]) → Below base w4 w' → K (a.put o.dst v') w') : if Region.wanted o (yielded ops a.tmps) = true then Oper.wp Try.prog o a w K Q else E := by
  have ho4 := hown.below h4w
  have hz := Nat.le_trans hbase h4w.size
  exact stepAppRow w s x hg ho hs ho4 (hu.below h4w) hB hx hc hlen hz (fun v' w' k1 k2 => h v' w' k1 ((h4w.mono hbase).trans ((Below.refl _ _).grown k2 hz (fun k hk => (ho4.lt k hk).1))))

set_option maxRecDepth 100000 in
set_option maxHeartbeats 8000000 in
theorem l01Draw_any (b K mo : Nat) (w : World) (hs : SrcB w b K) (hK : K ≤ 100000) (hm : 1 ≤ mo) (hm2 : mo ≤ 6) :
    Calls Try.prog 37 #[.pointer (some ⟨b, 0, none⟩), .int .i64 mo] w fun e w' => ∃ (n t : Nat) (v : Value) (xss : List (List Int)), e = .returned (.agg #[.int .i64 n, .int .i64 t, v]) ∧ n ≤ mo ∧ chainOk n t xss = true ∧ OwnII w' w.heap.size v xss ∧ SrcB w' b (K + 1000) ∧ Fs (fun k => k = b) w w' := by
  have hbw := hs.lt
  have hA : Below w.heap.size w (w.alloc (.cells #[.int .i64 0, .int .i64 0, .slice none 0 0] 26)) := (Below.refl _ _).alloc (Nat.le_refl _) _
  have S1 := Lib.hid (hs.below hA)
  have FA := Lib.hid (Fs.of_below (S := fun k => k = b) hA)
  have R1 := Lib.hid (Box3.new w 0 0 (.slice none 0 0))
  obtain ⟨W1, hW1⟩ : ∃ W1, W1 = w.alloc (.cells #[.int .i64 0, .int .i64 0, .slice none 0 0] 26) := ⟨_, rfl⟩
  rw [← hW1] at S1 FA R1
  have Z1 := Lib.hid (show W1.heap.size = w.heap.size + 1 by rw [hW1]; simp)
  have HW1 := Lib.hid hW1
  clear hs hA hW1
  go_enter Try.func37, Try.ntmps37
  go_wp2_with fail
  rw [← HW1.out]
  refine (pick_any b K mo _ S1.out (by omega)).mono ?_
  rintro e w1 ⟨y, rfl, hy0, hy1, s1, g1⟩
  obtain ⟨y, rfl⟩ := Int.eq_ofNat_of_zero_le hy0
  obtain ⟨n, hn⟩ : ∃ n, n = y + 1 := ⟨_, rfl⟩
  have hn1 : 1 ≤ n := by omega
  have hn2 : n ≤ mo := by omega
  have r1 : IntKind.i64.wrap (1 + (y : Int)) = (n : Int) := by rw [IntWalk.i64_in _ (by omega)]; omega
  have hzw1 := g1.size
  have F1 := Lib.hid (FA.out.trans g1)
  have R2 := Lib.hid (R1.out.fs g1 (by omega))
  have OL := Lib.hid (show OwnI (w1.alloc (.cells #[.int .i64 1, .int .i64 2, .int .i64 2, .int .i64 3, .int .i64 4, .int .i64 6] 2)) w1.heap.size (.slice (some ⟨w1.heap.size, 0, none⟩) 6 6) [1, 2, 2, 3, 4, 6] from
    World.ownsRow_lit (base := w1.heap.size) (e := 2) (size := 1) w1 #[.int .i64 1, .int .i64 2, .int .i64 2, .int .i64 3, .int .i64 4, .int .i64 6] 6 (Nat.le_refl _) (by simp [maxLen]) (by simp))
  have hA2 : Below w1.heap.size w1 (w1.alloc (.cells #[.int .i64 1, .int .i64 2, .int .i64 2, .int .i64 3, .int .i64 4, .int .i64 6] 2)) := (Below.refl _ _).alloc (Nat.le_refl _) _
  have S2 := Lib.hid (s1.below hA2)
  have F2 := Lib.hid (F1.out.trans (Fs.of_below hA2))
  have R3 := Lib.hid (R2.out.fs (S := fun _ => False) (Fs.of_below hA2) (fun h => h))
  have HB1 := Lib.hid s1.lt
  clear hy0 hy1 hn s1 g1 hA2
  go_wp2_with fail
  refine (among_any b (K + 2) (xs := [1, 2, 2, 3, 4, 6]) _ S2.out (by omega) (fun W hf => (OL.out.fs hf (fun k hk => by have := HB1.out; omega)).sl) (by simp) (by simp)).mono ?_
  rintro e w2 ⟨t, ht, rfl, s2, g2⟩
  obtain ⟨t, rfl, ht1, ht2⟩ : ∃ t' : Nat, t = (t' : Int) ∧ 1 ≤ t' ∧ t' ≤ 6 := by
    simp at ht
    exact ⟨t.toNat, by omega, by omega, by omega⟩
  have F3 := Lib.hid (F2.out.trans g2)
  have R4 := Lib.hid (R3.out.fs g2 (by omega))
  have hA3 : Below w2.heap.size w2 (w2.alloc (.cells #[.int .i64 n, .int .i64 t, .slice none 0 0] 26)) := (Below.refl _ _).alloc (Nat.le_refl _) _
  have HB2 := Lib.hid s2.lt
  have S3 := Lib.hid (s2.below hA3)
  have F4 := Lib.hid (F3.out.trans (Fs.of_below hA3))
  have R5 := Lib.hid (R4.out.fs (S := fun _ => False) (Fs.of_below hA3) (fun h => h))
  have X3 := Lib.hid (Box3.new w2 n t (.slice none 0 0))
  obtain ⟨W3, hW3⟩ : ∃ W3, W3 = w2.alloc (.cells #[.int .i64 n, .int .i64 t, .slice none 0 0] 26) := ⟨_, rfl⟩
  rw [← hW3] at S3 F4 R5 X3
  have HW3 := Lib.hid hW3
  have ZR := Lib.hid (show w.heap.size < w2.heap.size from R4.out.c.1)
  have Z3 := Lib.hid (show W3.heap.size = w2.heap.size + 1 by rw [hW3]; simp)
  clear ht s2 g2 hA3 S1 FA R1 R2 F1 OL S2 F2 R3 HB1 hzw1 hW3
  go_wp2
  rw [← HW3.out]
  go_loopw [6] (fun l wr => ∃ (i : Nat) (v : Value) (xss : List (List Int)), i ≤ n ∧ l = .int .i64 i ∧ xss.length = i ∧ Hid (∀ r ∈ xss, r.length = n ∧ (∀ x ∈ r, 0 ≤ x ∧ x ≤ (t : Int)) ∧ r.sum = (t : Int)) ∧ Box3 wr w2.heap.size n t v ∧ OwnII wr (w2.heap.size + 1) v xss ∧ SrcB wr b (K + 4 + 24 * i) ∧ Fs (fun k => k = b ∨ k = w2.heap.size) W3 wr) (fun l _ => n - (intOf l).toNat)
  case atStart => exact ⟨0, _, [], Nat.zero_le _, rfl, rfl, Lib.hid (by simp), X3.out, OwnII.nil _ _, S3.out, Fs.refl _ _⟩
  case round =>
    obtain ⟨i, v, xss, hi, rfl, hxl, hrows, hbox, hown, hsrc, hf⟩ := hrel
    by_cases hlt : i < n
    · have i1 : (i : Int) < (n : Int) := by omega
      have c0 := hbox.c.get 0 _ rfl
      have c1 := hbox.c.get 1 _ rfl
      have c2 := hbox.c.get 2 _ rfl
      have zb := hbox.c.1
      have HBX := Lib.hid hbox
      have HO := Lib.hid hown.b
      have HS := Lib.hid hsrc
      have HF := Lib.hid hf
      have hbne : ¬ w2.heap.size = b := by have := HB2.out; omega
      have hz3 : w2.heap.size + 1 ≤ wr.heap.size := by omega
      have hxs : xss.length < 16777216 := by omega
      clear hbox hown hsrc hf
      go_wp2_with fail
      go_region_law (first
        | (refine step_appRowJ (w4 := w4) (B := wr.heap.size) rfl (.tmp 22) (.tmp 29) rfl (u := .slice ua n uc) (xs := r) rfl o4 u4 hB4 (by (repeat (first | exact Below.refl _ _ | refine Below.drew ?_ | refine Below.alloc ?_ (by simp) _))) rfl (by first | (simp [go_sem]; done) | fail) hxs hz4 ?_; intro v5 w5 o5 b5; obtain ⟨oa, on, oc, rfl, _⟩ := o5.formJ; have x5 := x4.fs (Fs.of_belowB b5) (by omega); have s5 := s4.fs (Fs.of_belowB b5) (fun k hk => by have := HB2.out; omega); have q0 := x5.c.get 0 _ rfl; have q1 := x5.c.get 1 _ rfl; have q2 := x5.c.get 2 _ rfl; have q3 := x5.f 2)
        | (go_simp; go_at_call 72; refine (l01Row_any b (K + 4 + 24 * i) n t _ (HS.out.below (by (repeat (first | exact Below.refl _ _ | refine Below.drew ?_ | refine Below.alloc ?_ (by simp) _)))) (by omega) (by omega) (by omega) (by omega)).mono ?_; rintro e w4 ⟨u, r, rfl, hrl, hrx, hrs, ou, s4, g4⟩; obtain ⟨ua, uc, rfl, _⟩ := id ou.sl; rw [hrl] at ou ⊢; have G4 : Fs (fun k => k = b) wr w4 := (Fs.of_below (by (repeat (first | exact Below.refl _ _ | refine Below.drew ?_ | refine Below.alloc ?_ (by simp) _)))).trans g4; have o4 := OwnIIB.fsJ HO.out G4 (fun k hk => by have := HB2.out; omega); have hwz : wr.heap.size ≤ w4.heap.size := G4.size; have u4 := ou.lower (base' := w2.heap.size + 1) (by simpa using hz3); have hB4 : ∀ g, (Value.slice ua n uc).ownBlock = some g → wr.heap.size ≤ g := (fun g hg => by have := (ou.lt g hg).1; simpa using this); have x4 := HBX.out.fs G4 hbne; have hz4 : w2.heap.size + 1 ≤ w4.heap.size := Nat.le_trans hz3 hwz; have p2 := x4.c.get 2 _ rfl; have hl4 : w2.heap.size < w4.heap.size := hz4; have hn4 : ¬ w2.heap.size = w4.heap.size := Nat.ne_of_lt hl4; have hn4' : ¬ w4.heap.size = w2.heap.size := Nat.ne_of_gt hl4)
        | fail "no arm")
      all_goals
        have ROW := Lib.hid (show ∀ x ∈ xss ++ [r], x.length = n ∧ (∀ y ∈ x, 0 ≤ y ∧ y ≤ (t : Int)) ∧ x.sum = (t : Int) from fun x hx => by
          simp only [List.mem_append, List.mem_singleton] at hx
          rcases hx with hx | rfl
          · exact hrows.out x hx
          · exact ⟨hrl, hrx, hrs⟩)
        have O5 := Lib.hid o5
        have X5 := Lib.hid x5
        have S5 := Lib.hid s5
        have F5 := Lib.hid (show Fs (fun k => k = b ∨ k = w2.heap.size) W3 w5 from ⟨b5.os.trans (G4.os.trans HF.out.os), b5.tape.trans (G4.tape.trans HF.out.tape), b5.output.trans (G4.output.trans HF.out.output), Nat.le_trans HF.out.size (Nat.le_trans G4.size b5.size), fun k hk hx => (b5.block k (by have := Z3.out; omega)).trans ((G4.block k (Nat.lt_of_lt_of_le hk HF.out.size) (fun e => hx (.inl e))).trans (HF.out.block k hk hx))⟩)
        clear o5 x5 s5 b5
        go_wp2
        go_roundw
        case rel => exact ⟨i + 1, _, xss ++ [r], by omega, by go_num, by simp [hxl], ROW, X5.out.set _, O5.out.setCell (by simp) _, (S5.out.fs (Fs.set1 _ _ _ _) (fun k hk => by have := HB2.out; omega)).more (by omega), F5.out.set (a := ⟨w2.heap.size, 2, none⟩) (.inr rfl) _⟩
        case measure => simp [intOf]; omega
    · obtain rfl : i = n := by omega
      have R6 := R5.out.fs hf (by have := ZR.out; have := Z1.out; omega)
      have c0 := hbox.c.get 0 _ rfl
      have c1 := hbox.c.get 1 _ rfl
      have c2 := hbox.c.get 2 _ rfl
      have q0 := R6.c.get 0 _ rfl
      have q1 := R6.c.get 1 _ rfl
      have q2 := R6.c.get 2 _ rfl
      have f0 := R6.f 0
      have f1 := R6.f 1
      have f2 := R6.f 2
      have zz := R6.c.1
      have HCH := Lib.hid (chain_drawn hn1 (by omega) ht1 (by omega) hxl hrows.out)
      obtain ⟨va, vn, vc, rfl, _⟩ := hown.formJ
      have HO := Lib.hid hown
      have HS := Lib.hid hsrc
      have HF := Lib.hid (show Fs (fun k => k = b) w wr from ⟨hf.os.trans F4.out.os, hf.tape.trans F4.out.tape, hf.output.trans F4.out.output, Nat.le_trans F4.out.size hf.size, fun k hk hx => (hf.block k (Nat.lt_of_lt_of_le hk F4.out.size) (by have := ZR.out; omega)).trans (F4.out.block k hk hx)⟩)
      clear hbox R6 hown hsrc hf hrows
      go_wp2
      refine bodyPost_ret (v := .agg #[.int .i64 i, .int .i64 t, .slice va vn vc]) (by simp [results, Try.results37, go_sem, c0, c1, c2, q0, q1, q2, zz]) rfl ⟨i, t, _, xss, rfl, hn2, HCH.out, ?_, ?_, ?_⟩
      · exact (((HO.out.setCell (by have := ZR.out; simp; omega) _).setCell (by have := ZR.out; simp; omega) _).setCell (by have := ZR.out; simp; omega) _).lower (by have := ZR.out; omega)
      · exact (HS.out.fs (Fs.set3 _ _ _ _ _) (fun k hk => by omega)).more (by omega)
      · have hs3 := Fs.set3 wr w.heap.size (.int .i64 i) (.int .i64 t) (.slice va vn vc)
        exact ⟨hs3.os.trans HF.out.os, hs3.tape.trans HF.out.tape, hs3.output.trans HF.out.output, Nat.le_trans HF.out.size hs3.size, fun k hk hx => (hs3.block k (Nat.lt_of_lt_of_le hk HF.out.size) (by omega)).trans (HF.out.block k hk hx)⟩
end Go.Proofs.Ytghdginjdolgpaa
