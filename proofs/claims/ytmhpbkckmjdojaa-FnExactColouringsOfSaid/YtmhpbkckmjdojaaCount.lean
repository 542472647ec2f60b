/-
  All colourings, the program's; CountColourings of the program.
-/
import Derived.Test.YtmhpbkckmjdojaaCols
import Derived.Test.YtmhpbkckmjdojaaDecks
import Derived.Deep.DeepCutAuto
import Derived.Deep.RegionWith
namespace Go.Proofs.Ytmhpbkckmjdojaa
open Go.RowKit Go.Sort
theorem colD_len (q : Nat) (part : List Int) (es : List (List Int)) : ∀ (f : Nat) (l : List Int), (colD q part es f l).length ≤ q ^ f
  | 0, l => by unfold colD; split <;> simp
  | f + 1, l => by
    unfold colD
    have key : ∀ L : List Int, (L.flatMap fun c => colD q part es f (l ++ [c])).length ≤ L.length * q ^ f := by
      intro L
      induction L with
      | nil => simp
      | cons x r ih =>
        rw [List.flatMap_cons, List.length_append, List.length_cons, Nat.add_mul]
        have := colD_len q part es f (l ++ [x])
        omega
    refine Nat.le_trans (key _) ?_
    rw [Nat.pow_succ, Nat.mul_comm]
    refine Nat.mul_le_mul_left _ (Nat.le_trans (List.length_filter_le _ _) (by rw [upTo_length]; exact Nat.le_refl _))
theorem pow_small {q m : Nat} (hq : q ≤ 4) (hm : m ≤ 5) : q ^ m ≤ 1024 :=
  Nat.le_trans (Nat.pow_le_pow_left hq m) (Nat.le_trans (Nat.pow_le_pow_right (by decide) hm) (by decide))
set_option maxRecDepth 100000 in
set_option maxHeartbeats 4000000 in
theorem colourings_any {v u : Value} {es : List (List Int)} {part : List Int} (m q : Nat) (w : World) (ha : SlII w v es) (hu : SlI w u part) (hE : EdgesB m es) (hm : m ≤ 5) (hq : q ≤ 4) (hpl : part.length = m) :
    Calls Try.prog 29 #[.agg #[.int .i64 m, v], .int .i64 q, u] w fun e w' => ∃ r, e = .returned r ∧ OwnII w' w.heap.size r (colD q part es m []) ∧ Below w.heap.size w w' := by
  have hmf : ∀ (fn : Fn) (first cap : Array Value) (w : World), (Instr.makeFunc fn first cap).run Try.prog w = .ok (.func fn first cap) w := fun _ _ _ _ => rfl
  have HA := Lib.hid (fun W (h : Below w.heap.size w W) => ha.below h)
  have HV := Lib.hid (fun W (h : Below w.heap.size w W) => hu.below h)
  have hlen := Nat.le_trans (colD_len q part es m []) (pow_small hq hm)
  have HLEN := Lib.hid hlen
  obtain ⟨a, ca, us, rfl, _⟩ := ha
  obtain ⟨va, vc, rfl, _⟩ := hu
  have HE := Lib.hid hE
  have HPL := Lib.hid hpl
  have hbx : ColBox ((((((w.alloc (.cells #[.int .i64 m, .slice a es.length ca] 29)).alloc (.cells #[.int .i64 q] 2)).alloc (.cells #[.slice va part.length vc] 25)).alloc (.cells #[] 25)).alloc (.cells #[.slice (some ⟨w.heap.size + 1 + 1 + 1, 0, none⟩) 0 0] 22)).alloc (.cells #[.func (.func 49) #[] #[.pointer (some ⟨w.heap.size, 0, none⟩), .pointer (some ⟨w.heap.size + 1 + 1 + 1 + 1, 0, none⟩), .pointer (some ⟨w.heap.size + 1, 0, none⟩), .pointer (some ⟨w.heap.size + 1 + 1, 0, none⟩), .pointer (some ⟨w.heap.size + 1 + 1 + 1 + 1 + 1, 0, none⟩)]] 64)) w.heap.size (w.heap.size + 1) (w.heap.size + 1 + 1) (w.heap.size + 1 + 1 + 1 + 1) (w.heap.size + 1 + 1 + 1 + 1 + 1) m q (.slice a es.length ca) (.slice va part.length vc) (.slice (some ⟨w.heap.size + 1 + 1 + 1, 0, none⟩) 0 0) := by
    refine ⟨⟨by first | (simp; done) | (simp; omega), fun i x hx => ?_⟩, ⟨by first | (simp; done) | (simp; omega), fun i x hx => ?_⟩, ⟨by first | (simp; done) | (simp; omega), fun i x hx => ?_⟩, ?_, ?_, ?_, ?_, ?_, ?_⟩
    · match i, hx with
      | 0, hx => simp at hx; subst hx; simp [go_sem]
      | 1, hx => simp at hx; subst hx; simp [go_sem]
    · match i, hx with
      | 0, hx => simp at hx; subst hx; simp [go_sem]
    · match i, hx with
      | 0, hx => simp at hx; subst hx; simp [go_sem]
    · simp [go_sem]
    · simp [go_sem]
    · simp [go_sem]
    all_goals (repeat (first | exact not_isE_at (by first | (simp; done) | fail) (by decide) | rw [isE_old (by first | (simp; done) | (simp; omega) | fail)]))
  have hown : OwnII ((((((w.alloc (.cells #[.int .i64 m, .slice a es.length ca] 29)).alloc (.cells #[.int .i64 q] 2)).alloc (.cells #[.slice va part.length vc] 25)).alloc (.cells #[] 25)).alloc (.cells #[.slice (some ⟨w.heap.size + 1 + 1 + 1, 0, none⟩) 0 0] 22)).alloc (.cells #[.func (.func 49) #[] #[.pointer (some ⟨w.heap.size, 0, none⟩), .pointer (some ⟨w.heap.size + 1 + 1 + 1 + 1, 0, none⟩), .pointer (some ⟨w.heap.size + 1, 0, none⟩), .pointer (some ⟨w.heap.size + 1 + 1, 0, none⟩), .pointer (some ⟨w.heap.size + 1 + 1 + 1 + 1 + 1, 0, none⟩)]] 64)) (w.heap.size + 3) (.slice (some ⟨w.heap.size + 1 + 1 + 1, 0, none⟩) 0 0) [] := by
    have h0 := OwnII.empty (((w.alloc (.cells #[.int .i64 m, .slice a es.length ca] 29)).alloc (.cells #[.int .i64 q] 2)).alloc (.cells #[.slice va part.length vc] 25)) (base := w.heap.size + 3) (by simp)
    rw [show (((w.alloc (.cells #[.int .i64 m, .slice a es.length ca] 29)).alloc (.cells #[.int .i64 q] 2)).alloc (.cells #[.slice va part.length vc] 25)).heap.size = w.heap.size + 1 + 1 + 1 by simp] at h0
    exact (h0.below ((Below.refl _ _).alloc (Nat.le_refl _) _)).below ((Below.refl _ _).alloc (Nat.le_refl _) _)
  have bw : Below w.heap.size w ((((((w.alloc (.cells #[.int .i64 m, .slice a es.length ca] 29)).alloc (.cells #[.int .i64 q] 2)).alloc (.cells #[.slice va part.length vc] 25)).alloc (.cells #[] 25)).alloc (.cells #[.slice (some ⟨w.heap.size + 1 + 1 + 1, 0, none⟩) 0 0] 22)).alloc (.cells #[.func (.func 49) #[] #[.pointer (some ⟨w.heap.size, 0, none⟩), .pointer (some ⟨w.heap.size + 1 + 1 + 1 + 1, 0, none⟩), .pointer (some ⟨w.heap.size + 1, 0, none⟩), .pointer (some ⟨w.heap.size + 1 + 1, 0, none⟩), .pointer (some ⟨w.heap.size + 1 + 1 + 1 + 1 + 1, 0, none⟩)]] 64)) := (((((Below.refl _ _).alloc (Nat.le_refl _) _).alloc (by simp) _).alloc (by simp; omega) _).alloc (by simp; omega) _).alloc (by simp; omega) _ |>.alloc (by simp; omega) _
  have HBX := Lib.hid hbx
  have HOW := Lib.hid hown.b
  have HBW := Lib.hid bw
  clear hbx hown bw hE hpl hlen
  go_enter Try.func29, Try.ntmps29
  go_wp2_with fail
  refine (col_any w (w.heap.size + 3) (by omega) (by omega) (by omega) (by omega) (by omega) (by omega) HE.out (by omega) (by omega) HPL.out HA HV m [] _ _ [] _ _ (Lib.hid (by simp)) HBX.out HOW.out (OwnI.nil _ _) (Lib.hid (fun g hg => by simp [Value.ownBlock] at hg)) (by have := HLEN.out; simp; omega) (by first | (simp; done) | (simp; omega)) HBW.out).mono ?_
  rintro e w1 ⟨v1, rfl, x1, o1, f1⟩
  rw [List.nil_append] at o1
  have p0 := x1.o0
  obtain ⟨ra, n, rc, rfl, _⟩ := o1.form
  have HF := Lib.hid f1
  have HO := Lib.hid o1
  clear x1 f1 o1
  go_wp2
  go_ret
  exact ⟨_, rfl, HO.out.lower (by omega), HBW.out.trans (HF.out.below (by omega) (by omega) (by simp; omega))⟩
theorem rep_snoc' (k : Nat) (x : Int) : List.replicate k x ++ [x] = List.replicate (k + 1) x := by rw [List.replicate_succ']
def countL (q m : Nat) (es : List (List Int)) : Nat := (colD q (List.replicate m (-1)) es m []).length
end Go.Proofs.Ytmhpbkckmjdojaa
