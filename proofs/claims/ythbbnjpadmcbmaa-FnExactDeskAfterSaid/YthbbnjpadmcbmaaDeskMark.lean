/-
  Desks in a law: compared, marked, held.
-/
import Derived.Test.YthbbnjpadmcbmaaDeskAft
import Derived.Test.YthbbnjpadmcbmaaLawR
import Derived.Test.YthbbnjpadmcbmaaMark
import Derived.Test.YthbbnjpadmcbmaaFrame
namespace Go.Proofs.Ythbbnjpadmcbmaa
open Go.RowKit Go.Sort
theorem eqDesk_refl {vl vr ul ur : Value} {l r : List Int} (q : Int) (w : World) (ha : SlI w vl l) (hb : SlI w vr r) (hc : SlI w ul l) (hd : SlI w ur r) :
    Calls Try.prog 19 #[.agg #[vl, vr, .int .i64 q], .agg #[ul, ur, .int .i64 q]] w fun e w' => e = .returned (.bool true) ∧ Below w.heap.size w w' := by
  have bx : Below w.heap.size w ((w.alloc (.cells #[vl, vr, .int .i64 q] 32)).alloc (.cells #[ul, ur, .int .i64 q] 32)) := ((Below.refl _ _).alloc (Nat.le_refl _) _).alloc (by simp) _
  have HA := Lib.hid (ha.below bx)
  have HC := Lib.hid (hc.below bx)
  have HB := Lib.hid (fun W (h : Below w.heap.size w W) => hb.below h)
  have HD := Lib.hid (fun W (h : Below w.heap.size w W) => hd.below h)
  obtain ⟨la, lc, rfl, _⟩ := ha
  obtain ⟨ra, rc, rfl, _⟩ := hb
  obtain ⟨ma, mc, rfl, _⟩ := hc
  obtain ⟨na, nc, rfl, _⟩ := hd
  have ht : ((q : Int) != q) = false := by simp
  go_enter Try.func19, Try.ntmps19
  go_wp2_with fail
  refine (eqInt64S_refl _ HA.out HC.out).mono ?_
  rintro e w1 ⟨rfl, b1⟩
  have a1 := b1.cell (p := ⟨w.heap.size, 1, none⟩) (by simp <;> omega)
  have a2 := b1.cell (p := ⟨w.heap.size, 2, none⟩) (by simp <;> omega)
  have c1 := b1.cell (p := ⟨w.heap.size + 1, 1, none⟩) (by simp)
  have c2 := b1.cell (p := ⟨w.heap.size + 1, 2, none⟩) (by simp)
  simp [go_sem] at a1 a2 c1 c2
  have hb1 := bx.trans (b1.mono bx.size)
  have hz := b1.size
  simp at hz
  have z0 : w.heap.size < w1.heap.size := by omega
  have z1 : w.heap.size + 1 < w1.heap.size := by omega
  clear b1
  go_wp2_with fail
  refine (eqInt64S_refl _ (HB.out _ hb1) (HD.out _ hb1)).mono ?_
  rintro e w2 ⟨rfl, b2⟩
  have d2 := b2.cell (p := ⟨w.heap.size, 2, none⟩) z0
  have e2 := b2.cell (p := ⟨w.heap.size + 1, 2, none⟩) z1
  rw [a2] at d2
  rw [c2] at e2
  clear a1 a2 c1 c2
  go_wp2
  go_ret
  exact ⟨rfl, hb1.trans (b2.mono hb1.size)⟩
def In2 (vl vr : Value) (k : Nat) : Prop := vl.ownBlock = some k ∨ vr.ownBlock = some k
theorem Fr.of_grown {S : Nat → Prop} {w w' : World} {row : Option Nat} (h : w.grownBy w' row) (hr : ∀ g, row = some g → S g) : Fr S w w' :=
  ⟨h.os, h.tape, h.output, h.size, fun k hk hx => h.block k hk (fun e => hx (hr k e.symm))⟩
theorem Fr.cell {S : Nat → Prop} {w w' : World} (h : Fr S w w') {p : Addr} (hp : p.block < w.heap.size) (hn : ¬ S p.block) : w'.cell? p = w.cell? p :=
  World.cell?_of_block (h.block p.block hp hn)
theorem Fr.frozen {S : Nat → Prop} {w w' : World} (h : Fr S w w') {p : Addr} (hp : p.block < w.heap.size) (hn : ¬ S p.block) : w'.frozen? p = w.frozen? p := by
  simp [World.frozen?, h.block p.block hp hn]
set_option maxHeartbeats 1000000 in
theorem markDesk_any {vl vr : Value} {l r : List Int} (q m : Int) (base : Nat) (w : World) (hm0 : 0 ≤ m) (hm : m + l.length + r.length ≤ 1000000000) (hd : DeskO w base vl vr l r) :
    Calls Try.prog 24 #[.agg #[vl, vr, .int .i64 q], .int .i64 m] w fun e w' => e = .returned (.int .i64 (m + l.length + r.length)) ∧ DeskO w' base vl vr (ramp m l.length) (ramp (m + l.length) r.length) ∧ Fr (In2 vl vr) w w' := by
  have bx : Below w.heap.size w (w.alloc (.cells #[vl, vr, .int .i64 q] 32)) := (Below.refl _ _).alloc (Nat.le_refl _) _
  have hlt := hd.1.lt
  have HL2 := Lib.hid hd.2.1.lt
  have hd1 := hd.below bx
  obtain ⟨la, ln, lc, ra, rc, rfl, rfl⟩ := hd.form
  have HO := Lib.hid hd1
  have HL := Lib.hid hlt
  clear hd hd1 hlt
  go_enter Try.func24, Try.ntmps24
  go_wp2_with fail
  refine (markInt64S_any m base _ hm0 (by omega) HO.out.1).mono ?_
  rintro e w1 ⟨rfl, o1, g1⟩
  have f1 : Fr (In2 (.slice la ln lc) (.slice ra ln rc)) (w.alloc (.cells #[.slice la ln lc, .slice ra ln rc, .int .i64 q] 32)) w1 := Fr.of_grown g1 (fun g hg => .inl hg)
  have hne : ¬ In2 (.slice la ln lc) (.slice ra ln rc) w.heap.size := by
    rintro (h | h)
    · have := (HL.out _ h).2; omega
    · have := (HL2.out _ h).2; omega
  have c1 := f1.cell (p := ⟨w.heap.size, 1, none⟩) (by simp) hne
  simp [go_sem] at c1
  have o2 : OwnI w1 base (.slice ra ln rc) r := HO.out.2.1.kept g1 (by
    cases hb : (Value.slice ra ln rc).ownBlock with
    | none => exact .inl rfl
    | some g => exact .inr (fun e => HO.out.2.2.2 g e.symm hb))
  have F1 := Lib.hid f1
  have O1 := Lib.hid o1
  have O2 := Lib.hid o2
  clear f1 o1 o2 g1
  have hm2 : m + (l.length : Int) + r.length ≤ 1000000000000 := by omega
  have hm3 : 0 ≤ m + (l.length : Int) := by omega
  go_wp2_with fail
  refine (markInt64S_any (m + l.length) base _ hm3 hm2 O2.out).mono ?_
  rintro e w2 ⟨rfl, o3, g3⟩
  have o4 : OwnI w2 base (.slice la ln lc) (ramp m l.length) := O1.out.kept g3 (by
    cases hb : (Value.slice la ln lc).ownBlock with
    | none => exact .inl rfl
    | some g => exact .inr (fun e => HO.out.2.2.2 g hb e.symm))
  have f3 : Fr (In2 (.slice la ln lc) (.slice ra ln rc)) w1 w2 := Fr.of_grown g3 (fun g hg => .inr hg)
  have F3 := Lib.hid f3
  have O4 := Lib.hid o4
  have O3 := Lib.hid o3
  clear f3 o4 o3 g3
  go_wp2
  go_ret
  exact ⟨rfl, ⟨O4.out, O3.out, by simp [ramp_length, HO.out.2.2.1], HO.out.2.2.2⟩, ((Fr.of_below bx).trans F1.out).trans F3.out⟩
set_option maxHeartbeats 1000000 in
theorem heldDesk_any {vl vr : Value} {n k : Nat} (q m : Int) (w : World) (hm0 : 0 ≤ m) (hm : m + n + k ≤ 1000000000) (ha : SlI w vl (ramp m n)) (hb : SlI w vr (ramp (m + n) k)) :
    Calls Try.prog 25 #[.agg #[vl, vr, .int .i64 q], .int .i64 m] w fun e w' => e = .returned (.int .i64 (m + n + k)) ∧ Below w.heap.size w w' := by
  have bx : Below w.heap.size w (w.alloc (.cells #[vl, vr, .int .i64 q] 32)) := (Below.refl _ _).alloc (Nat.le_refl _) _
  have HA := Lib.hid (ha.below bx)
  have HB := Lib.hid (fun W (h : Below w.heap.size w W) => hb.below h)
  obtain ⟨la, lc, rfl, _⟩ := ha
  obtain ⟨ra, rc, rfl, _⟩ := hb
  go_enter Try.func25, Try.ntmps25
  go_wp2_with fail
  refine (heldInt64S_any m n _ hm0 (by omega) HA.out).mono ?_
  rintro e w1 ⟨rfl, b1⟩
  have c1 := b1.cell (p := ⟨w.heap.size, 1, none⟩) (by simp)
  simp [go_sem] at c1
  have hb1 := bx.trans (b1.mono bx.size)
  clear b1
  have h1 : ¬ (m + (n : Int)) < 0 := by omega
  have h2 : ¬ (m + (n : Int) + (k : Int)) < 0 := by omega
  go_wp2_with fail
  refine (heldInt64S_any (m + n) k _ (by omega) (by omega) (HB.out _ hb1)).mono ?_
  rintro e w2 ⟨rfl, b2⟩
  go_wp2
  go_ret
  exact ⟨rfl, hb1.trans (b2.mono hb1.size)⟩
theorem Fs.of_fr {S : Nat → Prop} {w w' : World} (h : Fr S w w') : Fs S w w' := ⟨h.os, h.tape, h.output, h.size, h.block⟩
theorem DeskO.fs {S : Nat → Prop} {w w' : World} {base : Nat} {vl vr : Value} {l r : List Int} (h : DeskO w base vl vr l r) (hf : Fs S w w') (hS : ∀ k, S k → k < base) : DeskO w' base vl vr l r := ⟨ownsRow_fs h.1 hf hS, ownsRow_fs h.2.1 hf hS, h.2.2⟩
theorem learnAll_ok {n : Nat} {st : Int} : ∀ (xs : List (Int × Int × Int)) (d d' : List Int × List Int × Int), DeskOk n d → (∀ x ∈ xs, recOk st n x.1 x.2.1 x.2.2 = true) → learnAll xs d = some d' → DeskOk n d'
  | [], d, d', hd, _, h => by
    simp [learnAll] at h
    subst h
    exact hd
  | x :: r, d, d', hd, hx, h => by
    unfold learnAll at h
    split at h
    · rename_i d1 h1
      exact learnAll_ok r d1 d' (learn3_ok hd (hx x (by simp)) h1) (fun y hy => hx y (by simp [hy])) h
    · simp at h
theorem deskR_len (s t : Int) (xss : List (List Int)) (bs sm wk : Int) (xs : List (Int × Int × Int)) : (deskR s t xss bs sm wk xs).1.1.length ≤ 8 ∧ (deskR s t xss bs sm wk xs).1.2.1.length ≤ 8 := by
  unfold deskR
  split
  · rename_i hv
    unfold validRecsB at hv
    rw [Bool.and_eq_true] at hv
    obtain ⟨_, _, h3, h4, _⟩ := service_bds hv.1
    have hall := recsOk_all hv.2
    obtain ⟨n, rfl⟩ := Int.eq_ofNat_of_zero_le (show 0 ≤ sm by omega)
    rw [Int.toNat_natCast]
    split
    · rename_i d hd
      have h := learnAll_ok xs _ d (deskOk_new n) hall hd
      exact ⟨by have := h.1; dsimp only; omega, by have := h.2.1; dsimp only; omega⟩
    · simp
  · simp
end Go.Proofs.Ythbbnjpadmcbmaa
