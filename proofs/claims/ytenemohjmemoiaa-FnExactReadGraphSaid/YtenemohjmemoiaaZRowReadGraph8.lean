/-
  Services and chains, opened. With it: ReadGraph: the reference's walk; both sides joined. FnExactReadGraph: both answer the same, and leave what they are given as it was. The closed facts that all rows of this seat share, each by itself. Arguments opened: from the row's reading to the walks' words.
-/
import Derived.Test.YtenemohjmemoiaaZRowReadGraph7
import Derived.WalkKit
import Derived.Deep.AppendLies
import Derived.Test.YtenemohjmemoiaaZRowReadGraph6
import Derived.Test.YtenemohjmemoiaaZRowReadGraph1
import Derived.Test.YtenemohjmemoiaaZRowReadGraph2
import Derived.Deep.RegionWith
import Derived.Deep.DeepCutAuto
import Derived.ProofKit
import Derived.OpenShut
import Derived.Lib.SmallJoins
import Derived.Deep.Slices
set_option linter.unusedVariables false
set_option linter.unusedSimpArgs false
namespace Go.Proofs.Ytenemohjmemoiaa
open Go.RowKit Go.Sort

set_option maxHeartbeats 2000000 in
theorem l01Number_any (s : ByteArray) (w : World) (hs : s.size ≤ 1048576) :
    Calls Try.prog 50 #[.string s] w fun e w' => e = .returned (.int .i64 (num2 s)) ∧ w = w' := by
  by_cases h1 : s.size < 1
  · have HN := Lib.hid (show num2 s = -1 by unfold num2; rw [if_neg (by omega)])
    go_enter Try.func50, Try.ntmps50
    go_wp2
    go_ret
    exact ⟨ri HN.out.symm, rfl⟩
  by_cases h9 : 2 < s.size
  · have HN := Lib.hid (show num2 s = -1 by unfold num2; rw [if_neg (by omega)])
    go_enter Try.func50, Try.ntmps50
    go_wp2
    go_ret
    exact ⟨ri HN.out.symm, rfl⟩
  have HN := Lib.hid (show num2 s = valG s 0 0 by unfold num2; rw [if_pos (by omega)])
  go_enter Try.func50, Try.ntmps50
  go_wp2
  go_loopw [3, 4] (fun a i wr => ∃ (k : Nat) (q : Int), k ≤ s.size ∧ i = .int .i64 k ∧ a = .int .i64 q ∧ Pow10 q k ∧ Hid (num2 s = valG s q k) ∧ wr = w) (fun _ i _ => s.size - (intOf i).toNat)
  case atStart => exact ⟨0, 0, Nat.zero_le _, rfl, rfl, ⟨by decide, by decide⟩, HN.out, rfl⟩
  case round =>
    obtain ⟨k, q, hk, rfl, rfl, hq, hval, rfl⟩ := hrel
    have HQ := Lib.hid hq
    clear hq
    by_cases hlt : k < s.size
    · have i1 : (k : Int) < (s.size : Int) := by omega
      have hu : s[k].toNat < 256 := UInt8.toNat_lt _
      have hq3 := (HQ.out.le (by omega)).1
      have hq4 := (HQ.out.le (by omega)).2
      by_cases e : 48 ≤ s[k].toNat ∧ s[k].toNat ≤ 57
      · have e1 : (48 : Int) ≤ (s[k].toNat : Int) := by omega
        have e2 : (s[k].toNat : Int) ≤ 57 := by omega
        have HE := Lib.hid e
        clear e
        go_wp2
        go_roundw
        case rel => exact ⟨k + 1, _, by omega, by go_num, rfl, HQ.out.next HE.out.1 HE.out.2, by unfold Hid at *; rw [hval, valG_yes hlt HE], trivial⟩
        case measure => simp [intOf]; omega
      · have HV := Lib.hid (valG_no (a := q) hlt e)
        by_cases e1 : (s[k].toNat : Int) < 48
        · clear e
          go_wp2
          go_ret
          exact ⟨ri (by rw [hval.out, HV.out]), rfl⟩
        · have e2 : (57 : Int) < (s[k].toNat : Int) := by omega
          clear e
          go_wp2
          go_ret
          exact ⟨ri (by rw [hval.out, HV.out]), rfl⟩
    · obtain rfl : k = s.size := by omega
      go_wp2
      go_ret
      exact ⟨ri (by rw [hval.out, valG_end (by omega)]), rfl⟩
theorem num2_range (s : ByteArray) : -1 ≤ num2 s ∧ num2 s < 1000 := by
  unfold num2
  split
  · rename_i h
    rcases valG_range (s := s) _ 0 0 rfl ⟨by decide, by decide⟩ (Nat.zero_le _) with h2 | h2
    · rw [h2]; omega
    · have h3 : (10 : Int) ^ s.size ≤ 10 ^ 2 := by
        have := Nat.pow_le_pow_right (by decide : 0 < 10) h.2
        exact_mod_cast this
      have := h2.1
      have := h2.2
      omega
  · omega
theorem own_two_of {w : World} {base g : Nat} {x y : Int} (hb : base ≤ g) (hg : w.heap[g]? = some (.cells #[.int .i64 x, .int .i64 y] 2)) : OwnI w base (.slice (some ⟨g, 0, none⟩) 2 2) [x, y] :=
  ⟨rfl, .inr ⟨g, 2, #[.int .i64 x, .int .i64 y], rfl, hb, hg, Nat.le_refl _, by simp [maxLen], rfl, rfl⟩⟩
theorem OwnIIB.low {w : World} {base B : Nat} {v : Value} {xss : List (List Int)} (h : OwnIIB w base B v xss) : ∀ g, v.ownBlock = some g → base ≤ g := fun g hg => (h.lt g hg).1
/-- a word, with empty words behind -/
theorem word_pad {l : List ByteArray} {p : List ByteArray} (hp : ∀ x ∈ p, x = ⟨#[]⟩) {i : Nat} (h : i < (l ++ p).length) : (l ++ p)[i] = l.getD i ⟨#[]⟩ := by
  by_cases hl : i < l.length
  · rw [List.getElem_append_left hl, getD_at hl]
  · rw [List.getElem_append_right (by omega)]
    have := hp _ (List.getElem_mem (show i - l.length < p.length by rw [List.length_append] at h; omega))
    rw [this, List.getD_eq_getElem?_getD, List.getElem?_eq_none (by omega)]; rfl
theorem rdG_len (text : ByteArray) : sumL (rdG text).1.2 ≤ 50 := by
  unfold rdG
  split
  · split
    · rename_i h
      obtain ⟨h1, h2⟩ := isGr_rows h
      show sumL (readP text).2 ≤ 50
      rw [sumL_two h1]; omega
    · simp [sumL]
  · simp [sumL]

set_option maxRecDepth 100000 in
set_option maxHeartbeats 16000000 in
theorem SpecReadGraph_any (s : ByteArray) (w : World) (hs : s.size ≤ 1048576) :
    Calls Try.prog 9 #[.string s] w (FreshGC w (rdG s)) := by
  obtain ⟨W1, hW1⟩ : ∃ W1, W1 = w.alloc (.cells #[.int .i64 0, .slice none 0 0] 24) := ⟨_, rfl⟩
  have b1 : Below w.heap.size w W1 := by rw [hW1]; exact (Below.refl _ _).alloc (Nat.le_refl _) _
  have z1 : W1.heap.size = w.heap.size + 1 := by rw [hW1]; simp
  have RB := Lib.hid (show ∀ W, Below W1.heap.size W1 W → LineB W w.heap.size 0 (.slice none 0 0) ∧ W.frozen? ⟨w.heap.size, 0, none⟩ = false from fun W hW => by
    have l1 : LineB W1 w.heap.size 0 (.slice none 0 0) := by rw [hW1]; exact ⟨CellsAt.new' _ _ _ rfl, frozen_new⟩
    have l2 : W1.frozen? ⟨w.heap.size, 0, none⟩ = false := by rw [hW1]; exact frozen_new
    exact ⟨l1.below hW (by omega), frozen_of_below (p := ⟨w.heap.size, 0, none⟩) hW (by simp; omega) l2⟩)
  have B1 := Lib.hid b1
  have HW1 := Lib.hid hW1
  clear b1 hW1
  by_cases h2000 : 2000 < s.size
  · have i1 : (2000 : Int) < (s.size : Int) := by omega
    have HR := Lib.hid (show rdG s = ((0, []), 2) by unfold rdG; rw [if_neg (by omega)])
    go_enter Try.func9, Try.ntmps9
    go_upto_region 1 with (fail)
    rw [← HW1.out]
    obtain ⟨rl, f0⟩ := RB.out _ (Below.refl W1.heap.size W1)
    have f1 := rl.f
    have q0 := rl.c.get 0 _ rfl
    have q1 := rl.c.get 1 _ rfl
    have zr := rl.c.1
    have HB := Lib.hid (B1.out.trans ((Below.refl W1.heap.size W1).mono (by have := B1.out.size; omega)))
    clear rl
    go_wp2
    refine bodyPost_ret (v := .tuple #[.agg #[.int .i64 0, .slice none 0 0], .int .i64 2]) (by simp [results, Try.results9, go_sem, q0, q1, zr]) rfl ?_
    have hr := HR.out
    rw [hr]
    exact ⟨_, rfl, OwnII.nil _ _, (HB.out.setCell (by simp) _).setCell (by simp) _⟩
  · have i1 : ¬ (2000 : Int) < (s.size : Int) := by omega
    have hrd : rdG s = if isGr s (readP s) = true then (readP s, 0) else ((0, []), 5) := by unfold rdG; rw [if_pos (by omega)]
    have hrp : readP s = (num2 (wordAt ((cuts s 10).getD 0 ⟨#[]⟩) 1), (midL (cuts s 10)).map edgeP) := rfl
    obtain ⟨hcl, hcz⟩ := cuts_lens s 10
    have hc1 := cuts_len s 10
    generalize hL : cuts s 10 = L at hrp hcl hcz hc1
    have h0L : 0 < L.length := by omega
    have hx0 : L.getD 0 ⟨#[]⟩ = L[0]'h0L := by simp [h0L]
    rw [hx0] at hrp
    have hz0 := hcz _ (List.getElem_mem h0L)
    generalize hl0 : L[0]'h0L = l0 at hrp hz0
    have hnr := num2_range (wordAt l0 1)
    generalize hn : num2 (wordAt l0 1) = n at hrp hnr
    have HRD := Lib.hid hrd
    have HRP := Lib.hid hrp
    have HL := Lib.hid hL
    have HL0 := Lib.hid hl0
    have HN := Lib.hid hn
    have HZ := Lib.hid hcz
    have HL2 := Lib.hid (show L.length ≤ 2001 by omega)
    have hL1 := hc1
    have hsz : s.size ≤ 2000 := by omega
    clear hrd hrp hL hx0 hl0 hn hcz hcl h2000
    go_enter Try.func9, Try.ntmps9
    go_wp2_with fail
    rw [← HW1.out]
    refine (l01Words_any s 10 _ (by omega)).mono ?_
    rintro e w2 ⟨v2, rfl, o2, b2⟩
    rw [HL.out] at o2
    obtain ⟨la, lc, rfl, lm1, lm2, _⟩ := id o2.sl
    unfold maxLen at lm2
    have HS := Lib.hid (fun W (h : Below w2.heap.size w2 W) => o2.sl.below h)
    obtain ⟨b, off, hadr, _, gc⟩ := FS_get o2.sl h0L
    rw [HL0.out] at gc
    simp only [Nat.add_zero] at gc
    subst hadr
    have HB2 := Lib.hid b2
    have e2 : (0 : Int) < (L.length : Int) := by omega
    clear o2 b2
    go_wp2_with fail
    refine (l01Words_any l0 32 _ (by omega)).mono ?_
    rintro e w3 ⟨v3, rfl, o3, b3⟩
    have hcl := (cuts_lens l0 32).1
    have hb3 := Lib.hid (HB2.out.trans (b3.mono HB2.out.size))
    have HW0 := Lib.hid (show l0.size ≤ 2000 by omega)
    have hcz := (cuts_lens l0 32).2
    have hc1 := cuts_len l0 32
    have hwd : wordAt l0 1 = (cuts l0 32).getD 1 ⟨#[]⟩ := rfl
    generalize cuts l0 32 = K at o3 hcl hcz hc1 hwd
    have hw1 := word_pad (l := K) (p := [⟨#[]⟩]) (by simp) (i := 1) (by simp; omega)
    rw [← hwd] at hw1
    have hz1 : (wordAt l0 1).size ≤ 1048576 := by
      rw [hwd, List.getD_eq_getElem?_getD]
      by_cases h : 1 < K.length
      · rw [List.getElem?_eq_getElem h]; have := hcz _ (List.getElem_mem h); simp; omega
      · rw [List.getElem?_eq_none (by omega)]; show 0 ≤ _; omega
    have HW1w := Lib.hid hw1
    have HZ1 := Lib.hid hz1
    clear hz1
    have hkk : K.length < 100000 := by omega
    have hz3 : w2.heap.size ≤ w3.heap.size := b3.size
    have hz1 : W1.heap.size ≤ w2.heap.size := HB2.out.size
    have b3' := b3
    clear gc b3 hcz hcl hwd hw1
    go_wp2_with (at_builtin; refine Flat.append FStr _ _ _ (ys := [⟨#[]⟩]) rfl rfl rfl (o3.alloc _) rfl (rd_new _ _ _) (by simp; omega) (by simp; omega) ?_)
    intro v4 w4 o4 g4 b4
    have hb4 := hb3.out.trans ((((Below.refl w3.heap.size w3).alloc (Nat.le_refl _) _).mono hz3 |>.trans b4).mono hz1)
    obtain ⟨ka, kc, rfl, kl1, kl2, _⟩ := id o4.sl
    unfold maxLen at kl2
    obtain ⟨kb, koff, hadr, _, gk⟩ := FS_get o4.sl (i := 1) (by simp; omega)
    subst hadr
    rw [HW1w.out] at gk
    have e3 : (1 : Int) < (((K ++ [(⟨#[]⟩ : ByteArray)]).length : Nat) : Int) := by simp; omega
    generalize (K ++ [(⟨#[]⟩ : ByteArray)]).length = kn at kl1 e3 ⊢
    obtain ⟨W5, hW5⟩ : ∃ W5, W5 = w4.alloc (.cells #[.int .i64 n, .slice none 0 0] 24) := ⟨_, rfl⟩
    have b5 : Below w4.heap.size w4 W5 := by rw [hW5]; exact (Below.refl _ _).alloc (Nat.le_refl _) _
    have X5 := Lib.hid (show LineB W5 w4.heap.size n (.slice none 0 0) by rw [hW5]; exact ⟨CellsAt.new' _ _ _ rfl, frozen_new⟩)
    have HB4 := Lib.hid hb4
    have HB5 := Lib.hid (hb4.trans (b5.mono hb4.size))
    have hb24 : Below w2.heap.size w2 w4 := b3'.trans (((Below.refl w3.heap.size w3).alloc (Nat.le_refl _) _).mono hz3 |>.trans b4)
    have HSW := Lib.hid (fun W (h : Below w4.heap.size W5 W) => HS.out W (hb24.trans ((b5.trans h).mono hb24.size)))
    have Z4 := Lib.hid (show w.heap.size < w4.heap.size from by have := (RB.out _ hb4).1.c.1; exact this)
    have B55 := Lib.hid (Below.refl w4.heap.size W5)
    have HW5 := Lib.hid hW5
    have Z14 := Lib.hid (show W1.heap.size ≤ w4.heap.size from hb4.size)
    clear hW5 b5 hb24 hb4 o4 g4 b4 o3
    go_wp2_with fail
    refine (l01Number_any _ _ HZ1.out).mono ?_
    rintro e w4 ⟨rfl, rfl⟩
    rw [HN.out]
    clear gk
    go_wp2
    rw [← HW5.out]
    go_loopw [5, 7] (fun _ i wr => ∃ (k : Nat) (v : Value) (es' : List (List Int)), 1 ≤ k ∧ k ≤ L.length ∧ (k = 1 ∨ k + 1 ≤ L.length) ∧ i = .int .i64 k ∧ es'.length + 1 = k ∧ Hid (es' = ((L.drop 1).take (k - 1)).map edgeP) ∧ LineB wr w4.heap.size n v ∧ OwnII wr (w4.heap.size + 1) v es' ∧ Below w4.heap.size W5 wr) (fun _ i _ => L.length - (intOf i).toNat)
    case atStart => exact ⟨1, _, [], Nat.le_refl _, hL1, .inl rfl, rfl, rfl, Lib.hid (by simp), X5.out, OwnII.nil _ _, B55.out⟩
    case round =>
      obtain ⟨k, v, es', hk1, hk, hkd, rfl, hel, hes, hline, hown, hbr⟩ := hrel
      have rk : IntKind.i64.wrap ((k : Int) + 1) = ((k + 1 : Nat) : Int) := by rw [IntWalk.i64_in _ (by have := HL2.out; omega)]; simp
      by_cases hlt : k + 1 < L.length
      · obtain ⟨b, off, hadr, _, gc⟩ := FS_get (HSW.out _ hbr) (i := k) (by omega)
        simp at hadr
        obtain ⟨rfl, rfl⟩ := hadr
        have i0 : (0 : Int) ≤ (k : Int) := by omega
        have i2 : (k : Int) < (L.length : Int) := by omega
        have i3 : ((k + 1 : Nat) : Int) < (L.length : Int) := by omega
        have hz := HZ.out _ (List.getElem_mem (show k < L.length by omega))
        have hnx : ((L.drop 1).take (k + 1 - 1)).map edgeP = ((L.drop 1).take (k - 1)).map edgeP ++ [edgeP (L[k]'(by omega))] := by
          have h1 : k - 1 < (L.drop 1).length := by rw [List.length_drop]; omega
          rw [show k + 1 - 1 = (k - 1) + 1 by omega, List.take_succ_eq_append_getElem h1, List.map_append]
          simp only [List.getElem_drop, List.map_cons, List.map_nil]
          simp only [show 1 + (k - 1) = k by omega]
        rw [← hes.out] at hnx
        generalize L[k]'(by omega) = y at gc hz hnx
        have HNX := Lib.hid hnx
        have HL := Lib.hid hline
        have HO := Lib.hid hown
        have HBR := Lib.hid hbr
        have hzr := hline.c.1
        clear hnx hline hown hbr hes
        go_wp2_with fail
        refine (l01Words_any y 32 _ (by omega)).mono ?_
        rintro e w6 ⟨v6, rfl, o6, b6⟩
        obtain ⟨hcl, hcz⟩ := cuts_lens y 32
        have hc1 := cuts_len y 32
        have hed : edgeP y = [num2 ((cuts y 32).getD 1 ⟨#[]⟩), num2 ((cuts y 32).getD 2 ⟨#[]⟩)] := rfl
        generalize cuts y 32 = K at o6 hcl hcz hc1 hed
        have hw1 := word_pad (l := K) (p := [⟨#[]⟩, ⟨#[]⟩]) (by simp) (i := 1) (by simp)
        have hw2 := word_pad (l := K) (p := [⟨#[]⟩, ⟨#[]⟩]) (by simp) (i := 2) (by simp; omega)
        have hzw : ∀ i, (K.getD i ⟨#[]⟩).size ≤ 1048576 := by
          intro i
          rw [List.getD_eq_getElem?_getD]
          by_cases h : i < K.length
          · rw [List.getElem?_eq_getElem h]; have := hcz _ (List.getElem_mem h); simp only [Option.getD_some]; omega
          · rw [List.getElem?_eq_none (by omega)]; show 0 ≤ _; omega
        have hz1 := hzw 1
        have hz2 := hzw 2
        generalize K.getD 1 ⟨#[]⟩ = s1 at hw1 hed hz1
        generalize K.getD 2 ⟨#[]⟩ = s2 at hw2 hed hz2
        have hr1 := num2_range s1
        have hr2 := num2_range s2
        generalize hn1 : num2 s1 = x1 at hed hr1
        generalize hn2 : num2 s2 = x2 at hed hr2
        have HN1 := Lib.hid hn1
        have HN2 := Lib.hid hn2
        have HE := Lib.hid hed
        have HW1' := Lib.hid hw1
        have HW2' := Lib.hid hw2
        have hkk : K.length < 100000 := by omega
        have hz6 : wr.heap.size ≤ w6.heap.size := b6.size
        have HB6 := Lib.hid b6
        clear gc b6 hcz hcl hzw hw1 hw2 hn1 hn2 hed
        go_wp2_with (at_builtin; refine Flat.append FStr _ _ _ (ys := [⟨#[]⟩, ⟨#[]⟩]) rfl rfl rfl (o6.alloc _) rfl (rd_new _ _ _) (by simp; omega) (by simp; omega) ?_)
        intro v7 w7 o7 g7 b7
        have hb7 : Below wr.heap.size wr w7 := HB6.out.trans (((Below.refl w6.heap.size w6).alloc (Nat.le_refl _) _).mono hz6 |>.trans b7)
        obtain ⟨ka, kc, rfl, kl1, kl2, _⟩ := id o7.sl
        unfold maxLen at kl2
        obtain ⟨kb, koff, hadr, _, gk1⟩ := FS_get o7.sl (i := 1) (by simp)
        subst hadr
        have hko : wr.heap.size ≤ kb := (World.ownsRow.lt o7 kb rfl).1
        obtain ⟨kb', koff', hadr, _, gk2⟩ := FS_get o7.sl (i := 2) (by simp; omega)
        simp at hadr
        obtain ⟨rfl, rfl⟩ := hadr
        rw [HW1'.out] at gk1
        rw [HW2'.out] at gk2
        have e3 : (1 : Int) < (((K ++ [(⟨#[]⟩ : ByteArray), ⟨#[]⟩]).length : Nat) : Int) := by simp; omega
        have e4 : (2 : Int) < (((K ++ [(⟨#[]⟩ : ByteArray), ⟨#[]⟩]).length : Nat) : Int) := by simp; omega
        generalize (K ++ [(⟨#[]⟩ : ByteArray), ⟨#[]⟩]).length = kn at kl1 e3 e4 ⊢
        have l7 := HL.out.below hb7 hzr
        have c0 := l7.c.get 0 _ rfl
        have c1 := l7.c.get 1 _ rfl
        have hz7 : wr.heap.size ≤ w7.heap.size := hb7.size
        have L7 := Lib.hid l7
        have O7 := Lib.hid (HO.out.below hb7).b
        have HB7 := Lib.hid (HBR.out.trans (hb7.mono (by omega)))
        have hzb : w4.heap.size + 1 ≤ w7.heap.size := by omega
        have hlx : es'.length < 16777216 := by have := HL2.out; omega
        clear l7 hb7 o7 g7 b7 o6
        go_wp2_with fail
        have hk1 : kb < w7.heap.size := cell_lt gk1
        have hn1 : w4.heap.size ≠ kb := by have := Z4.out; omega
        have hzl : w4.heap.size < w7.heap.size := by omega
        have hnn : w7.heap.size ≠ w4.heap.size := by omega
        have hnn2 : w7.heap.size + 1 ≠ w4.heap.size := by omega
        have hzl2 : w4.heap.size < w7.heap.size + 1 := by omega
        have hkv : some kb ≠ v.ownBlock := fun e => by have := (HO.out.lt kb e.symm).2; omega
        refine wpX_start (fun W => W.cell? ⟨w4.heap.size, 1, none⟩ = some v ∧ W.cell? ⟨kb, koff + 1, none⟩ = some (.string s1) ∧ W.cell? ⟨kb, koff + 2, none⟩ = some (.string s2)) [12, 13, 14] (by kernel_rfl) ?_
        have HT := Lib.hid (show ∀ W, Below w7.heap.size w7 W → (W.cell? ⟨w4.heap.size, 1, none⟩ = some v ∧ W.cell? ⟨kb, koff + 1, none⟩ = some (.string s1) ∧ W.cell? ⟨kb, koff + 2, none⟩ = some (.string s2)) from fun W h => ⟨by rw [h.cell (p := ⟨w4.heap.size, 1, none⟩) hzl]; exact c1, by rw [h.cell (p := ⟨kb, koff + 1, none⟩) hk1]; exact gk1, by rw [h.cell (p := ⟨kb, koff + 2, none⟩) hk1]; exact gk2⟩)
        have hC := HT.out w7.drew (by (repeat (first | exact Below.refl _ _ | refine Below.drew ?_ | refine Below.alloc ?_ (by simp) _)))
        refine wpX_free (i := 0) (v := ?_) rfl (by kernel_rfl) (fun _ _ _ h => h) rfl (fun w' => ?_) ?_
        rotate_left
        · go_simp; try with_reducible rfl
        try simp only [Act.put, List.setIfInBounds_toArray, List.set_cons_zero, List.set_cons_succ]
        refine wpX_load (i := 1) (v := ?_) rfl (by kernel_rfl) (fun _ _ _ h => h) hC rfl (fun w' hw' => ?_) ?_
        rotate_left
        · obtain ⟨q1, q2, q3⟩ := hw'; go_simp; try with_reducible rfl
        try simp only [Act.put, List.setIfInBounds_toArray, List.set_cons_zero, List.set_cons_succ]
        refine wpX_free (i := 2) (v := ?_) rfl (by kernel_rfl) (fun _ _ _ h => h) rfl (fun w' => ?_) ?_
        rotate_left
        · go_simp; try with_reducible rfl
        try simp only [Act.put, List.setIfInBounds_toArray, List.set_cons_zero, List.set_cons_succ]
        refine wpX_free (i := 3) (v := ?_) rfl (by kernel_rfl) (fun _ _ _ h => h) rfl (fun w' => ?_) ?_
        rotate_left
        · go_simp; try with_reducible rfl
        try simp only [Act.put, List.setIfInBounds_toArray, List.set_cons_zero, List.set_cons_succ]
        refine wpX_load (i := 4) (v := ?_) rfl (by kernel_rfl) (fun _ _ _ h => h) hC rfl (fun w' hw' => ?_) ?_
        rotate_left
        · obtain ⟨q1, q2, q3⟩ := hw'; go_simp; try with_reducible rfl
        try simp only [Act.put, List.setIfInBounds_toArray, List.set_cons_zero, List.set_cons_succ]
        refine wpX_free (i := 6) (v := ?_) rfl (by kernel_rfl) (fun _ _ _ h => h) rfl (fun w' => ?_) ?_
        rotate_left
        · go_simp; try with_reducible rfl
        try simp only [Act.put, List.setIfInBounds_toArray, List.set_cons_zero, List.set_cons_succ]
        refine wpX_free (i := 7) (v := ?_) rfl (by kernel_rfl) (fun _ _ _ h => h) rfl (fun w' => ?_) ?_
        rotate_left
        · go_simp; try with_reducible rfl
        try simp only [Act.put, List.setIfInBounds_toArray, List.set_cons_zero, List.set_cons_succ]
        refine wpX_load (i := 8) (v := ?_) rfl (by kernel_rfl) (fun _ _ _ h => h) hC rfl (fun w' hw' => ?_) ?_
        rotate_left
        · obtain ⟨q1, q2, q3⟩ := hw'; go_simp; try with_reducible rfl
        try simp only [Act.put, List.setIfInBounds_toArray, List.set_cons_zero, List.set_cons_succ]
        refine wpX_one (i := 5) rfl (by kernel_rfl) rfl ?_
        intro K hK
        go_simp
        go_at_call 50
        refine (l01Number_any s1 _ hz1).mono ?_
        rintro e w9 ⟨rfl, rfl⟩
        rw [HN1.out]
        refine hK _ _ hC ?_
        clear hK K
        try simp only [Act.put, List.setIfInBounds_toArray, List.set_cons_zero, List.set_cons_succ]
        refine wpX_one (i := 9) rfl (by kernel_rfl) rfl ?_
        intro K hK
        go_simp
        go_at_call 50
        refine (l01Number_any s2 _ hz2).mono ?_
        rintro e w9 ⟨rfl, rfl⟩
        rw [HN2.out]
        refine hK _ _ hC ?_
        clear hK K
        try simp only [Act.put, List.setIfInBounds_toArray, List.set_cons_zero, List.set_cons_succ]
        refine wpX_one (i := 10) rfl (by kernel_rfl) rfl ?_
        intro K hK
        go_simp
        refine hK _ _ (HT.out _ (by (repeat (first | exact Below.refl _ _ | refine Below.drew ?_ | refine Below.alloc ?_ (by simp) _)))) ?_
        clear hK K
        try simp only [Act.put, List.setIfInBounds_toArray, List.set_cons_zero, List.set_cons_succ]
        refine wpX_one (i := 11) rfl (by kernel_rfl) rfl ?_
        intro K hK
        go_simp
        refine hK _ _ (HT.out _ (by (repeat (first | exact Below.refl _ _ | refine Below.drew ?_ | refine Below.alloc ?_ (by simp) _)))) ?_
        clear hK K
        try simp only [Act.put, List.setIfInBounds_toArray, List.set_cons_zero, List.set_cons_succ]
        refine wpX_rest (t := [12, 13, 14]) (l := [_, _, _]) rfl (by kernel_rfl) (by kernel_rfl) ?_
        clear hC
        refine listAppRow _ (.tmp 40) (.tmp 50) rfl rfl (B := w7.heap.size) (u := .slice (some ⟨w7.heap.size, 0, none⟩) 2 2) (xs := [x1, x2]) rfl (O7.out.below (by (repeat (first | exact Below.refl _ _ | refine Below.drew ?_ | refine Below.alloc ?_ (by simp) _)))) (own_two_of hzb ((heap_alloc_old _ _ (by simp)).trans (heap_alloc_new w7 _))) (fun g hg => by simp [Value.ownBlock] at hg; omega) rfl (by simp [go_sem]) hlx (by simp; omega) ?_
        intro v8 w8 o8 g8
        have b8 := (show Below w7.heap.size w7 _ from (by (repeat (first | exact Below.refl _ _ | refine Below.drew ?_ | refine Below.alloc ?_ (by simp) _)))).mono hzb |>.trans ((Below.refl _ _).grown g8 (by first | (simp; omega) | fail) O7.out.low)
        have l8 := L7.out.below b8 (Nat.lt_succ_self _)
        have q1 := l8.c.get 1 _ rfl
        have q0 := l8.c.get 0 _ rfl
        have f8 := l8.f
        have s8 := l8.c.1
        obtain ⟨oa, on, oc, rfl, _⟩ := o8.form
        have L8 := Lib.hid l8
        have O8 := Lib.hid o8
        have B8 := Lib.hid (HB7.out.trans (b8.mono (by omega)))
        clear l8 o8 b8 g8
        go_wp2
        go_roundw
        case rel => exact ⟨k + 1, _, es' ++ [[x1, x2]], by omega, by omega, .inr (by omega), by go_num, by simp; omega, Lib.hid (by rw [HNX.out, HE.out]), L8.out.set _, O8.out.setLow (by simp) _, B8.out.setCell (by simp) _⟩
        case measure => simp [intOf]; omega
      · have hes2 : es' = (midL L).map edgeP := by
          rw [hes.out]; unfold midL
          rw [show k - 1 = L.length - 2 by omega]
        have HRS := Lib.hid (show rdG s = if isGr s (n, es') = true then ((n, es'), 0) else ((0, []), 5) by rw [HRD.out, HRP.out, ← hes2])
        have i3 : ¬ ((k + 1 : Nat) : Int) < (L.length : Int) := by omega
        have hb4 := HB5.out.trans (hbr.mono (by have := Z14.out; omega))
        have x0 := hline.c.get 0 _ rfl
        have x1 := hline.c.get 1 _ rfl
        have hzw : w4.heap.size < wr.heap.size := hline.c.1
        have HS5 := Lib.hid (fun W (h : Below wr.heap.size wr W) => hown.sl.below h)
        have HX5 := Lib.hid (fun W (h : Below wr.heap.size wr W) => hline.below h hline.c.1)
        have HO := Lib.hid hown
        have HB6' := Lib.hid hb4
        have HK := Lib.hid (show es'.length ≤ 2001 by have := HL2.out; omega)
        obtain ⟨oa, on, oc, rfl, _⟩ := hown.form
        generalize hg : graphOk n es' = g
        have HG := Lib.hid hg
        clear hg hline hown hbr hb4 hes hes2 hk hk1 hkd hel
        go_wp2_with fail
        refine (l08Ok_any _ _ n _ ⟨hzw, x0, x1⟩ (HS5.out _ (Below.refl _ _))).mono ?_
        rintro e w5 ⟨rfl, b5⟩
        rw [HG.out]
        have hb5 := HB6'.out.trans (b5.mono HB6'.out.size)
        clear x0 x1
        cases g
        · skip
          obtain ⟨rl, f0⟩ := RB.out _ (hb5)
          have f1 := rl.f
          have q0 := rl.c.get 0 _ rfl
          have q1 := rl.c.get 1 _ rfl
          have zr := rl.c.1
          have HB := Lib.hid (B1.out.trans ((hb5).mono (by have := B1.out.size; omega)))
          clear rl
          go_wp2
          refine bodyPost_ret (v := .tuple #[.agg #[.int .i64 0, .slice none 0 0], .int .i64 5]) (by simp [results, Try.results9, go_sem, q0, q1, zr]) rfl ?_
          have hr := (show rdG s = ((0, []), 5) by rw [HRS.out]; simp [isGr, HG.out])
          rw [hr]
          exact ⟨_, rfl, OwnII.nil _ _, (HB.out.setCell (by simp) _).setCell (by simp) _⟩
        · skip
          obtain ⟨m', rfl, hm1, hm5, hE, hlen⟩ := graphOk_all HG.out
          have HE := Lib.hid hE
          have x0 := (HX5.out _ b5).c.get 0 _ rfl
          have x1 := (HX5.out _ b5).c.get 1 _ rfl
          have zx5 := (HX5.out _ b5).c.1
          have HB6 := Lib.hid b5
          generalize hT : graphTx m' es' = T
          have HT := Lib.hid hT
          have hd : T = s ∨ ¬ T = s := Classical.em _
          clear hT hE
          go_wp2_with fail
          refine (l08Text_any _ _ m' _ ⟨zx5, x0, x1⟩ (HS5.out _ b5) HE.out hm5 (by omega)).mono ?_
          rintro e w6 ⟨rfl, b6⟩
          rw [HT.out]
          have hb6 := hb5.trans (b6.mono hb5.size)
          have hb56 := HB6.out.trans (b6.mono HB6.out.size)
          clear x0 x1 zx5
          rcases hd with hd | hd
          · skip
            have t1 : (T.toList == s.toList) = true := beq_yes hd
            have HD := Lib.hid hd
            obtain ⟨rl, f0⟩ := RB.out _ hb6
            have f1 := rl.f
            have q0 := rl.c.get 0 _ rfl
            have q1 := rl.c.get 1 _ rfl
            have zr := rl.c.1
            have x0 := (HX5.out _ hb56).c.get 0 _ rfl
            have x1 := (HX5.out _ hb56).c.get 1 _ rfl
            have zx := (HX5.out _ hb56).c.1
            have O6 := Lib.hid (HO.out.below hb56)
            have HB := Lib.hid (B1.out.trans (hb6.mono (by have := B1.out.size; omega)))
            clear rl hd
            go_wp2
            refine bodyPost_ret (v := .tuple #[.agg #[.int .i64 m', .slice oa on oc], .int .i64 0]) (by simp [results, Try.results9, go_sem, q0, q1, x0, x1, zr, zx]) rfl ?_
            have hr := (show rdG s = (((m' : Int), es'), 0) by rw [HRS.out]; simp [isGr, HG.out, HT.out, HD.out])
            rw [hr]
            exact ⟨_, rfl, ((O6.out.setLow (by have := Z4.out; simp; omega) _).setLow (by have := Z4.out; simp; omega) _).lower (by have := Z4.out; omega), (HB.out.setCell (by simp) _).setCell (by simp) _⟩
          · skip
            have t1 : (T.toList == s.toList) = false := beq_no hd
            have HD := Lib.hid hd
            clear hd
            obtain ⟨rl, f0⟩ := RB.out _ (hb6)
            have f1 := rl.f
            have q0 := rl.c.get 0 _ rfl
            have q1 := rl.c.get 1 _ rfl
            have zr := rl.c.1
            have HB := Lib.hid (B1.out.trans ((hb6).mono (by have := B1.out.size; omega)))
            clear rl
            go_wp2
            refine bodyPost_ret (v := .tuple #[.agg #[.int .i64 0, .slice none 0 0], .int .i64 5]) (by simp [results, Try.results9, go_sem, q0, q1, zr]) rfl ?_
            have hr := (show rdG s = ((0, []), 5) by rw [HRS.out]; simp [isGr, HG.out, HT.out, HD.out])
            rw [hr]
            exact ⟨_, rfl, OwnII.nil _ _, (HB.out.setCell (by simp) _).setCell (by simp) _⟩

theorem ImplReadGraph_any (s : ByteArray) (w : World) (hs : s.size ≤ 1048576) :
    Calls Try.prog 10 #[.string s] w (FreshGC w (rdG s)) := by
  by_cases h2 : 2000 < s.size
  · exact ImplReadGraph_early s w hs (.inl h2)
  by_cases h0 : s.size = 0
  · exact ImplReadGraph_early s w hs (.inr ⟨by omega, true, linesI_zero h0, rdG_I0 (by omega) (none_no h0)⟩)
  obtain ⟨m, hm⟩ : ∃ m, s.size = m + 1 := ⟨s.size - 1, by omega⟩
  by_cases e : s[m]'(by omega) = 10
  · have hy := last_yes hm e
    have hz : (s.extract 0 m).size ≤ 2000 := by rw [ByteArray.size_extract]; omega
    obtain ⟨hcl, hcz⟩ := cuts_lens (s.extract 0 m) 10
    refine ImplReadGraph_main s (cuts (s.extract 0 m) 10) w (by omega) (linesI_yes hm e) (cuts_len _ _) (by omega) (fun x hx => by have := hcz x hx; omega) ?_
    have := rdG_I (s := s.extract 0 m) (by rw [hy]; omega)
    rw [hy] at this
    exact this
  · exact ImplReadGraph_early s w hs (.inr ⟨by omega, false, linesI_no hm e, rdG_I0 (by omega) (last_no hm e)⟩)
end Go.Proofs.Ytenemohjmemoiaa
namespace Go.Proofs.Ytenemohjmemoiaa
open Go.RowKit Go.Sort
set_option linter.unusedVariables false
set_option maxRecDepth 100000 in
set_option maxHeartbeats 4000000 in
theorem FnExactReadGraph_walk (b0 : ByteArray) (w : World) (hsz0 : b0.size ≤ maxLen):
    Calls Try.prog 3 #[.string b0] w fun e w' => e = .returned (.bool true) ∧ Below w.heap.size w w' := by
  have hb0 : Below w.heap.size w w := (Below.refl w.heap.size w)
  unfold maxLen at hsz0
  by_cases hlen0 : 1048576 < b0.size
  · go_enter Try.func3, Try.ntmps3
    go_wp2
    go_ret
    exact ⟨rfl, hb0⟩
  go_enter Try.func3, Try.ntmps3
  generalize hR : rdG b0 = R
  have hlen := rdG_len b0
  rw [hR] at hlen
  have HR := Lib.hid hR
  clear hR
  obtain ⟨⟨r0n, r0e⟩, r1⟩ := R
  have hlen : sumL r0e ≤ 50 := hlen
  have HLEN := Lib.hid hlen
  go_wp2_with fail
  refine (SpecReadGraph_any b0 _ (by omega)).mono ?_
  rintro e w1 ⟨vw0, rfl, ow0, b1⟩
  have Z1 := Lib.hid b1.size
  rw [HR.out] at ow0 ⊢
  have hb1 := hb0.trans (b1.mono hb0.size)
  clear b1  
  have ow0 : OwnII _ _ _ r0e := ow0
  have ow0 := OwnII.b ow0
  obtain ⟨zw0a, zw0c, _, rfl, _⟩ := id ow0.sl
  have W0 := Lib.hid ow0
  clear ow0
  have bqW0 : Below w1.heap.size w1 (w1.alloc (.cells #[.int .i64 r0n, .slice zw0a r0e.length zw0c] 24)) := (Below.refl _ _).alloc (Nat.le_refl _) _
  have ZAW0 := Lib.hid (show (w1.alloc (.cells #[.int .i64 r0n, .slice zw0a r0e.length zw0c] 24)).heap.size = w1.heap.size + 1 from by simp)
  have W0_W0 := Lib.hid (W0.out.below bqW0)
  have hbqW0 := hb1.trans (bqW0.mono hb1.size)
  clear bqW0 W0
  have BW0 := Lib.hid (CellsAt.new w1 [.int .i64 r0n, .slice zw0a r0e.length zw0c] 24)
  have hd0 := Below.refl (w1.alloc (.cells #[.int .i64 r0n, .slice zw0a r0e.length zw0c] 24)).heap.size (w1.alloc (.cells #[.int .i64 r0n, .slice zw0a r0e.length zw0c] 24))
  have HDB := Lib.hid hbqW0
  have HwD : Hid (w.heap.size ≤ (w1.alloc (.cells #[.int .i64 r0n, .slice zw0a r0e.length zw0c] 24)).heap.size) := hbqW0.size
  have DW0 := Lib.hid (fun W (h : Below (w1.alloc (.cells #[.int .i64 r0n, .slice zw0a r0e.length zw0c] 24)).heap.size (w1.alloc (.cells #[.int .i64 r0n, .slice zw0a r0e.length zw0c] 24)) W) => W0_W0.out.below h)
  have DBW0 := Lib.hid (fun W (h : Below (w1.alloc (.cells #[.int .i64 r0n, .slice zw0a r0e.length zw0c] 24)).heap.size (w1.alloc (.cells #[.int .i64 r0n, .slice zw0a r0e.length zw0c] 24)) W) => BW0.out.below h)
  obtain ⟨NB, hNB⟩ : ∃ n, n = (w1.alloc (.cells #[.int .i64 r0n, .slice zw0a r0e.length zw0c] 24)).heap.size := ⟨_, rfl⟩
  have HNB := Lib.hid hNB
  clear hNB
  go_wp2_with fail
  refine (ImplReadGraph_any b0 _ (by omega)).mono ?_
  rintro e w2 ⟨vg0, rfl, og0, b2⟩
  have Z2 := Lib.hid b2.size
  rw [HR.out] at og0 ⊢
  have hb2 := hbqW0.trans (b2.mono hbqW0.size)
  have hd2 := hd0.trans (b2.mono hd0.size)
  have W0_2 := Lib.hid (W0_W0.out.below b2)
  have BW0_2 := Lib.hid (BW0.out.below b2)
  clear b2 W0_W0 BW0  hd0
  have og0 : OwnII _ _ _ r0e := og0
  have og0 := OwnII.b og0
  obtain ⟨zg0a, zg0c, _, rfl, _⟩ := id og0.sl
  rw [← HNB.out] at og0
  have HGS : Hid (∀ k, (fun k => NB ≤ k ∧ k < w2.heap.size) k → NB ≤ k ∧ k < w2.heap.size) := fun k hk => hk
  have G0 := Lib.hid og0
  clear og0
  have bqG0 : Below w2.heap.size w2 (w2.alloc (.cells #[.int .i64 r0n, .slice zg0a r0e.length zg0c] 24)) := (Below.refl _ _).alloc (Nat.le_refl _) _
  have ZAG0 := Lib.hid (show (w2.alloc (.cells #[.int .i64 r0n, .slice zg0a r0e.length zg0c] 24)).heap.size = w2.heap.size + 1 from by simp)
  have W0_G0 := Lib.hid (W0_2.out.below bqG0)
  have BW0_G0 := Lib.hid (BW0_2.out.below bqG0)
  have G0_G0 := Lib.hid (G0.out.below bqG0)
  have hbqG0 := hb2.trans (bqG0.mono hb2.size)
  have hdqG0 := hd2.trans (bqG0.mono hd2.size)
  clear bqG0 W0_2 BW0_2 G0 hd2
  have BG0 := Lib.hid (CellsAt.new w2 [.int .i64 r0n, .slice zg0a r0e.length zg0c] 24)
  have cBG00 := BG0.out.get 0 _ rfl
  have cBG01 := BG0.out.get 1 _ rfl
  have cBW00 := BW0_G0.out.get 0 _ rfl
  have cBW01 := BW0_G0.out.get 1 _ rfl
  go_wp2_with fail
  refine (eqGraph_refl r0n _ G0_G0.out.sl W0_G0.out.sl).mono ?_
  rintro e w3 ⟨rfl, b3⟩
  have Z3 := Lib.hid b3.size
  have hb3 := hbqG0.trans (b3.mono hbqG0.size)
  have hd3 := hdqG0.trans (b3.mono hdqG0.size)
  have W0_3 := Lib.hid (W0_G0.out.below b3)
  have BW0_3 := Lib.hid (BW0_G0.out.below b3)
  have G0_3 := Lib.hid (G0_G0.out.below b3)
  have BG0_3 := Lib.hid (BG0.out.below b3)
  clear b3 W0_G0 BW0_G0 G0_G0 BG0 cBG00 cBG01 cBW00 cBW01 hdqG0
  have hr_1 : (r1 != r1) = false := by simp
  have cBG00 := BG0_3.out.get 0 _ rfl
  have cBG01 := BG0_3.out.get 1 _ rfl
  go_wp2_with fail
  refine (markGraph_held r0n 1 NB _ _ (by omega) (by have := HLEN.out; omega) G0_3.out).mono ?_
  rintro e w4 ⟨rfl, og1, b4⟩
  have Z4 := Lib.hid b4.size
  have fg : Fs (fun k => NB ≤ k ∧ k < w2.heap.size) _ _ := Fs.of_mid b4
  have hd4 := hd3.trans (fg.below (B := (w1.alloc (.cells #[.int .i64 r0n, .slice zw0a r0e.length zw0c] 24)).heap.size) (by have := Z1.out; have := ZAW0.out; have := HNB.out; have := Z2.out; have := ZAG0.out; have := Z3.out; have := Z4.out; omega) (fun k hk => by have := (HGS.out k hk).1; have := Z1.out; have := ZAW0.out; have := HNB.out; have := Z2.out; have := ZAG0.out; have := Z3.out; have := Z4.out; omega))
  have W0_4 := Lib.hid (DW0.out _ hd4)
  have BW0_4 := Lib.hid (DBW0.out _ hd4)
  have BG0_4 := Lib.hid (BG0_3.out.fs fg (fun hk => by have := (HGS.out _ hk).2; omega))
  have hb4 := HDB.out.trans (hd4.mono HwD.out)
  clear b4 fg hb3 hd3 W0_3 BW0_3 G0_3 BG0_3 cBG00 cBG01
  have G1 := Lib.hid og1
  clear og1
  have hq0 : ¬ (1 + (sumL r0e : Int) : Int) < 0 := by omega
  have hq1 : ((1 + (sumL r0e : Int) : Int) != (1 + (sumL r0e : Int))) = false := by simp
  have cBG00 := BG0_4.out.get 0 _ rfl
  have cBG01 := BG0_4.out.get 1 _ rfl
  go_wp2_with fail
  refine (heldGraph_any r0n 1 _ (by omega) (by have := HLEN.out; omega) G1.out.sl).mono ?_
  rintro e w5 ⟨rfl, b5⟩
  have Z5 := Lib.hid b5.size
  have hb5 := hb4.trans (b5.mono hb4.size)
  have hd5 := hd4.trans (b5.mono hd4.size)
  have W0_5 := Lib.hid (W0_4.out.below b5)
  have BW0_5 := Lib.hid (BW0_4.out.below b5)
  have BG0_5 := Lib.hid (BG0_4.out.below b5)
  have G1_5 := Lib.hid (G1.out.below b5)
  clear b5 W0_4 BW0_4 BG0_4 G1 cBG00 cBG01 hd4
  go_wp2_with fail
  refine (ImplReadGraph_any b0 _ (by omega)).mono ?_
  rintro e w6 ⟨vh0, rfl, oh0, b6⟩
  have Z6 := Lib.hid b6.size
  rw [HR.out] at oh0 ⊢
  have hb6 := hb5.trans (b6.mono hb5.size)
  have hd6 := hd5.trans (b6.mono hd5.size)
  have W0_6 := Lib.hid (W0_5.out.below b6)
  have BW0_6 := Lib.hid (BW0_5.out.below b6)
  have BG0_6 := Lib.hid (BG0_5.out.below b6)
  have G1_6 := Lib.hid (G1_5.out.below b6)
  clear b6 W0_5 BW0_5 BG0_5 G1_5  hd5
  have oh0 : OwnII _ _ _ r0e := oh0
  have oh0 := OwnII.b oh0
  obtain ⟨zh0a, zh0c, _, rfl, _⟩ := id oh0.sl
  have HH := Lib.hid oh0
  clear oh0
  have bqHH : Below w6.heap.size w6 (w6.alloc (.cells #[.int .i64 r0n, .slice zh0a r0e.length zh0c] 24)) := (Below.refl _ _).alloc (Nat.le_refl _) _
  have ZAHH := Lib.hid (show (w6.alloc (.cells #[.int .i64 r0n, .slice zh0a r0e.length zh0c] 24)).heap.size = w6.heap.size + 1 from by simp)
  have W0_HH := Lib.hid (W0_6.out.below bqHH)
  have BW0_HH := Lib.hid (BW0_6.out.below bqHH)
  have BG0_HH := Lib.hid (BG0_6.out.below bqHH)
  have G1_HH := Lib.hid (G1_6.out.below bqHH)
  have HH_HH := Lib.hid (HH.out.below bqHH)
  have hbqHH := hb6.trans (bqHH.mono hb6.size)
  have hdqHH := hd6.trans (bqHH.mono hd6.size)
  clear bqHH W0_6 BW0_6 BG0_6 G1_6 HH hd6
  have BHH := Lib.hid (CellsAt.new w6 [.int .i64 r0n, .slice zh0a r0e.length zh0c] 24)
  have cBHH0 := BHH.out.get 0 _ rfl
  have cBHH1 := BHH.out.get 1 _ rfl
  have cBW00 := BW0_HH.out.get 0 _ rfl
  have cBW01 := BW0_HH.out.get 1 _ rfl
  go_wp2_with fail
  refine (eqGraph_refl r0n _ HH_HH.out.sl W0_HH.out.sl).mono ?_
  rintro e w7 ⟨rfl, b7⟩
  have Z7 := Lib.hid b7.size
  have hb7 := hbqHH.trans (b7.mono hbqHH.size)
  have hd7 := hdqHH.trans (b7.mono hdqHH.size)
  have W0_7 := Lib.hid (W0_HH.out.below b7)
  have BW0_7 := Lib.hid (BW0_HH.out.below b7)
  have BG0_7 := Lib.hid (BG0_HH.out.below b7)
  have G1_7 := Lib.hid (G1_HH.out.below b7)
  have HH_7 := Lib.hid (HH_HH.out.below b7)
  have BHH_7 := Lib.hid (BHH.out.below b7)
  clear b7 W0_HH BW0_HH BG0_HH G1_HH HH_HH BHH cBHH0 cBHH1 cBW00 cBW01 hdqHH
  have cBG00 := BG0_7.out.get 0 _ rfl
  have cBG01 := BG0_7.out.get 1 _ rfl
  go_wp2_with fail
  refine (heldGraph_any r0n 1 _ (by omega) (by have := HLEN.out; omega) G1_7.out.sl).mono ?_
  rintro e w8 ⟨rfl, b8⟩
  have Z8 := Lib.hid b8.size
  have hb8 := hb7.trans (b8.mono hb7.size)
  have hd8 := hd7.trans (b8.mono hd7.size)
  have W0_8 := Lib.hid (W0_7.out.below b8)
  have BW0_8 := Lib.hid (BW0_7.out.below b8)
  have BG0_8 := Lib.hid (BG0_7.out.below b8)
  have G1_8 := Lib.hid (G1_7.out.below b8)
  have HH_8 := Lib.hid (HH_7.out.below b8)
  have BHH_8 := Lib.hid (BHH_7.out.below b8)
  clear b8 W0_7 BW0_7 BG0_7 G1_7 HH_7 BHH_7 cBG00 cBG01 hd7
  go_wp2
  go_ret
  exact ⟨rfl, hb8⟩
end Go.Proofs.Ytenemohjmemoiaa
namespace Go.Proofs.Ytenemohjmemoiaa
open Go.RowKit
theorem and_tt {a b : Bool} (ha : a = true) (hb : b = true) : (a && b) = true := by rw [ha, hb]; rfl
theorem fLaid : laidOutB Try.checked.prog = true := by kernel_rfl
theorem fMaps : mapsRowed Try.checked.prog = true := by kernel_rfl
theorem fKeys : (true == Try.checked.prog.plainKeys) = true := by kernel_rfl
theorem fHeard : Try.checked.prog.stopsHeard = true := by kernel_rfl
theorem fEnter : Try.checked.prog.mayEnter = true := by kernel_rfl
theorem fFinal : (false == Try.checked.prog.liftsFinal) = true := by kernel_rfl
theorem fMake : (Try.checked.prog.make == some Make.cut) = true := by kernel_rfl
end Go.Proofs.Ytenemohjmemoiaa
namespace Go.Proofs.Ytenemohjmemoiaa
open Go.ChangeShapes Go.WideShapes Go.ChangeAt Go.RowKit Go.Joins Go.Deep
theorem laidOut : laidOutB Try.prog = true := by kernel_rfl
def WfL (xs : List Int) : Prop := ∀ x ∈ xs, -9223372036854775808 ≤ x ∧ x ≤ 9223372036854775807
theorem wf_i64 {x : Int} (h : (Lit.int .i64 x).wf = true) : -9223372036854775808 ≤ x ∧ x ≤ 9223372036854775807 := by
  simpa [Lit.wf, IntKind.min, IntKind.max, IntKind.signed, IntKind.bits] using h
theorem wf_u8 {x : Int} (h : (Lit.int .u8 x).wf = true) : 0 ≤ x ∧ x ≤ 255 := by
  simpa [Lit.wf, IntKind.min, IntKind.max, IntKind.signed, IntKind.bits] using h
section
variable {H : Type} {enc : TypeId × Value → H} {w : World} {spare : Nat → Bool} {held : Bool}
theorem rd_of {a : Addr} {vs : List Value} (h : ∀ i, i < vs.length → w.cell? (a.add i) = vs[i]?) : Rd w (some a) vs := by
  intro j u hu
  have hj : j < vs.length := (List.getElem?_eq_some_iff.1 hu).1
  have h0 := h j hj
  rw [hu] at h0
  obtain ⟨b, off, spot⟩ := a
  have hspot : spot = none := by
    have h1 : w.cell? ((⟨b, off, spot⟩ : Addr).add 0) = vs[0]? := h 0 (by omega)
    rw [List.getElem?_eq_getElem (by omega)] at h1
    simpa [Addr.add] using World.cell?_spot h1
  subst hspot
  rw [add_plain] at h0
  refine ⟨b, off, rfl, ?_, h0⟩
  exact World.block_lt_of_cell? w ⟨b, off + j, none⟩ h0
theorem open_one {t e : TypeId} (ht : Try.prog.underlying t = some (.slice e)) (hC : Try.prog.cellsOf e = 1) {fuel : Nat} {v : Value} {x : DataW H × List MemPlace}
    (h : DataW.trod enc Try.prog w 0 (fun _ => true) held fuel t [v] = some x) :
    ∃ ad n c vs, v = .slice ad n c ∧ n ≤ c ∧ c ≤ maxLen ∧ vs.length = n ∧ Rd w ad vs ∧ ∀ u ∈ vs, ∃ f y, DataW.trod enc Try.prog w 0 (fun _ => true) held f e [u] = some y := by
  rcases open_slice ht h with ⟨hcs, _⟩ | ⟨a, len, cap, m, n, D, Pl, hcs, _, hl, hm, hmm, _, hi⟩
  · simp at hcs
    exact ⟨none, 0, 0, [], hcs, Nat.le_refl _, by simp [maxLen], rfl, Rd.nil _ _, by simp⟩
  · simp at hcs
    have hmc : m = cap := by simpa using hmm
    rw [hC] at hi
    have hi' : ∀ i, i < len → ∃ u, w.cell? (a.add i) = some u ∧ DataW.trod enc Try.prog w 0 (fun _ => true) held n e [u] = some (D i, Pl i) := by
      intro i hil
      obtain ⟨cs', hc, ht'⟩ := hi i (by omega)
      obtain ⟨_, hcl, hat⟩ := World.cells?_some hc
      match cs', hcl with
      | [u], _ =>
        refine ⟨u, ?_, ht'⟩
        have := hat 0 (by omega)
        rw [Nat.mul_one] at this
        rw [add_add] at this
        simpa using this
    refine ⟨some a, len, cap, (List.range len).map fun i => (w.cell? (a.add i)).getD undef, hcs, hl, hm, by simp, rd_of ?_, ?_⟩
    · intro i hil
      simp at hil
      obtain ⟨u, hu, _⟩ := hi' i hil
      simp [hil, hu]
    · intro u hu
      simp at hu
      obtain ⟨i, hil, rfl⟩ := hu
      obtain ⟨u, hu, ht'⟩ := hi' i hil
      exact ⟨n, _, by rw [hu]; exact ht'⟩
theorem choose_list {α : Type} {P : Value → α → Prop} : ∀ {vs : List Value}, (∀ u ∈ vs, ∃ x, P u x) → ∃ xs : List α, vs.length = xs.length ∧ ∀ (i : Nat) (hi : i < xs.length) u, vs[i]? = some u → P u xs[i]
  | [], _ => ⟨[], rfl, by intro i hi; simp at hi⟩
  | v :: vs, h => by
    obtain ⟨x, hx⟩ := h v (by simp)
    obtain ⟨xs, h1, h2⟩ := choose_list (vs := vs) (fun u hu => h u (by simp [hu]))
    refine ⟨x :: xs, by simp [h1], fun i hi u hu => ?_⟩
    cases i with
    | zero => simp at hu; subst hu; exact hx
    | succ i => simp at hu hi; simpa using h2 i hi u hu
theorem ints_of {k : IntKind} {e : TypeId} (he : Try.prog.underlying e = some (.int k)) {vs : List Value} (h : ∀ u ∈ vs, ∃ f y, DataW.trod enc Try.prog w 0 (fun _ => true) held f e [u] = some y) :
    ∃ xs : List Int, vs = xs.map (.int k) ∧ ∀ x ∈ xs, (Lit.int k x).wf = true := by
  induction vs with
  | nil => exact ⟨[], rfl, by simp⟩
  | cons v vs ih =>
    obtain ⟨xs, h1, h2⟩ := ih (fun u hu => h u (by simp [hu]))
    obtain ⟨f, y, hy⟩ := h v (by simp)
    obtain ⟨n, hn, _, hw⟩ := DataW.trod_int he hy
    simp at hn
    exact ⟨n :: xs, by simp [h1, hn], by intro x hx; simp at hx; rcases hx with rfl | hx; exact hw; exact h2 x hx⟩
theorem open_SlI {fuel : Nat} {v : Value} {x : DataW H × List MemPlace} (h : DataW.trod enc Try.prog w 0 (fun _ => true) held fuel 31 [v] = some x) : ∃ xs, SlI w v xs ∧ WfL xs := by
  obtain ⟨ad, n, c, vs, h1, h2, h3, h4, h5, h6⟩ := open_one Try.underlying31 (by kernel_rfl) h
  obtain ⟨xs, rfl, h7⟩ := ints_of Try.underlying2 h6
  simp at h4
  subst h4
  exact ⟨xs, ⟨ad, c, h1, h2, h3, h5⟩, fun x hx => wf_i64 (h7 x hx)⟩

theorem open_SlII {fuel : Nat} {v : Value} {x : DataW H × List MemPlace} (h : DataW.trod enc Try.prog w 0 (fun _ => true) held fuel 22 [v] = some x) : ∃ xss, SlII w v xss ∧ ∀ r ∈ xss, WfL r := by
  obtain ⟨ad, n, c, vs, h1, h2, h3, h4, h5, h6⟩ := open_one Try.underlying22 (by kernel_rfl) h
  obtain ⟨xss, h7, h8⟩ := choose_list (P := fun u xs => SlI w u xs ∧ WfL xs) (fun u hu => by obtain ⟨f, y, hy⟩ := h6 u hu; exact open_SlI hy)
  subst h4
  refine ⟨xss, ⟨ad, c, vs, by rw [← h7]; exact h1, by omega, h3, h7, h5, fun i hi u hu => (h8 i hi u hu).1⟩, fun r hr => ?_⟩
  obtain ⟨i, hi, rfl⟩ := List.getElem_of_mem hr
  exact (h8 i hi _ (List.getElem?_eq_getElem (by omega))).2
end
end Go.Proofs.Ytenemohjmemoiaa
namespace Go.Proofs.Ytenemohjmemoiaa
open Go.ChangeShapes Go.WideShapes Go.ChangeAt Go.RowKit Go.Joins Go.Deep
section
variable {H : Type} {enc : TypeId × Value → H} {w : World} {held : Bool}
theorem list3 {l : List Value} (h : l.length = 3) : ∃ a b c, l = [a, b, c] := by
  match l, h with
  | [a, b, c], _ => exact ⟨a, b, c, rfl⟩
theorem array6 {l : Array Value} (h : l.size = 6) : ∃ a b c d e f, l = #[a, b, c, d, e, f] := by
  obtain ⟨l⟩ := l
  match l, h with
  | [a, b, c, d, e, f], _ => exact ⟨a, b, c, d, e, f, rfl⟩
theorem array3 {l : Array Value} (h : l.size = 3) : ∃ a b c, l = #[a, b, c] := by
  obtain ⟨l⟩ := l
  match l, h with
  | [a, b, c], _ => exact ⟨a, b, c, rfl⟩
end
end Go.Proofs.Ytenemohjmemoiaa
