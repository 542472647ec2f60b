/-
  Parts of a graph, the reference's walk.
-/
import Derived.Test.YtbhhihaaiiaagaaBits
import Derived.Test.YtbhhihaaiiaagaaPolyL
import Derived.Laws.Bits64
namespace Go.Proofs.Ytbhhihaaiiaagaa
open Go.RowKit Go.Sort
def mixR (p : List Int) (a b : Int) (k : Nat) : List Int := (relab p a b).take k ++ p.drop k
theorem mixR_zero (p : List Int) (a b : Int) : mixR p a b 0 = p := by simp [mixR]
theorem mixR_all (p : List Int) (a b : Int) {m : Nat} (h : p.length = m) : mixR p a b m = relab p a b := by
  subst h
  unfold mixR
  rw [List.drop_length, List.append_nil, List.take_of_length_le (by rw [relab_len]; exact Nat.le_refl _)]
theorem mixR_len {p : List Int} {a b : Int} {k : Nat} (h : k ≤ p.length) : (mixR p a b k).length = p.length := by
  unfold mixR
  rw [List.length_append, List.length_take, List.length_drop, relab_len]; omega
theorem mixR_at {p : List Int} {a b : Int} {k : Nat} (h : k < p.length) : (mixR p a b k).getD k 0 = p.getD k 0 := by
  unfold mixR
  rw [List.getD_eq_getElem?_getD, List.getElem?_append_right (by rw [List.length_take, relab_len]; omega), List.length_take, relab_len, List.getElem?_drop, List.getD_eq_getElem?_getD]
  congr 2
  omega
theorem mixR_succ {p : List Int} {a b : Int} {k : Nat} (h : k < p.length) : mixR p a b (k + 1) = (mixR p a b k).set k (if p.getD k 0 = b then a else p.getD k 0) := by
  unfold mixR
  have hr : k < (relab p a b).length := by rw [relab_len]; exact h
  rw [List.take_succ_eq_append_getElem hr, List.set_append_right _ _ (by rw [List.length_take]; omega), List.length_take, Nat.min_eq_left (by omega), Nat.sub_self, List.drop_eq_getElem_cons h, List.set_cons_zero, List.append_assoc]
  have e : (relab p a b)[k] = if p.getD k 0 = b then a else p.getD k 0 := by rw [← relab_getD h, getD_at hr]
  rw [e]; rfl
theorem mixR_same {p : List Int} {a b : Int} {k : Nat} (h : k < p.length) (hn : ¬ p.getD k 0 = b) : mixR p a b (k + 1) = mixR p a b k := by
  rw [mixR_succ h, if_neg hn]
  have hk : k < (mixR p a b k).length := by rw [mixR_len (by omega)]; exact h
  have e := mixR_at (a := a) (b := b) h
  rw [getD_at hk] at e
  rw [← e, List.set_getElem_self]
theorem partS_skip {m x i : Nat} {es : List (List Int)} (h : x / 2 ^ i % 2 = 0) : partS m es x (i + 1) = partS m es x i := by
  conv => lhs; unfold partS
  simp only [h, if_true]
theorem partS_same {m x i a b : Nat} {es : List (List Int)} {p : List Int} {G : Int} (hs : partS m es x i = (p, G)) (he : es.getD i [] = [(a : Int), (b : Int)]) (h : p.getD a 0 = p.getD b 0) : partS m es x (i + 1) = (p, G) := by
  conv => lhs; unfold partS
  simp only [hs, he, List.getD_cons_zero, List.getD_cons_succ, Int.toNat_natCast, h, if_true, ite_self]
theorem partS_join {m x i a b : Nat} {es : List (List Int)} {p : List Int} {G : Int} (hs : partS m es x i = (p, G)) (he : es.getD i [] = [(a : Int), (b : Int)]) (h0 : ¬ x / 2 ^ i % 2 = 0) (h : ¬ p.getD a 0 = p.getD b 0) : partS m es x (i + 1) = (relab p (p.getD a 0) (p.getD b 0), G - 1) := by
  conv => lhs; unfold partS
  simp only [hs, he, List.getD_cons_zero, List.getD_cons_succ, Int.toNat_natCast, if_neg h, if_neg h0]
set_option maxRecDepth 100000 in
set_option maxHeartbeats 8000000 in
theorem l08Parts_any {v : Value} {es : List (List Int)} (b o m x : Nat) (w : World) (hc : GraphAt w b o m v) (ha : SlII w v es) (hE : EdgesB m es) (hm1 : 1 ≤ m) (hm : m ≤ 5) (hx : x < 2 ^ 30) (hl : es.length ≤ 25) :
    Calls Try.prog 27 #[.pointer (some ⟨b, o, none⟩), .int .i64 x] w fun e w' => e = .returned (.int .i64 (partS m es x es.length).2) ∧ Below w.heap.size w w' := by
  have HC := Lib.hid (fun W (h : Below w.heap.size w W) => hc.below h)
  obtain ⟨a, ca, us, rfl, hca, hca', hul, hrd, hrow⟩ := ha
  unfold maxLen at hca'
  have HG := Lib.hid (fun W (h : Below w.heap.size w W) => And.intro (hrd.below h) (fun i hi u hu => (hrow i hi u hu).below h))
  have HU := Lib.hid hul
  have HE := Lib.hid hE
  have own0 := OwnI.empty w (base := w.heap.size) (Nat.le_refl _)
  have b0 : Below w.heap.size w (w.alloc (.cells #[] 2)) := (Below.refl _ _).alloc (Nat.le_refl _) _
  clear hE hrd hrow hul hc
  go_enter Try.func27, Try.ntmps27
  go_wp2
  go_loopw [5, 6] (fun v i wr => ∃ k : Nat, k ≤ m ∧ i = .int .i64 k ∧ OwnI wr w.heap.size v (upTo k) ∧ Below w.heap.size w wr) (fun _ i _ => m - (intOf i).toNat)
  case atStart => exact ⟨0, Nat.zero_le _, rfl, by simpa [upTo] using own0, b0⟩
  case round =>
    clear own0 b0
    obtain ⟨k, hk, rfl, hown, hbw⟩ := hrel
    obtain ⟨_, c0, c1⟩ := HC.out _ hbw
    by_cases hlt : k < m
    · have hsz := hbw.size
      go_wp2_with (at_builtin; refine append_i64 _ (k : Int) _ _ rfl rfl rfl hown rfl (by rw [upTo_length]; omega) hsz ?_)
      intro v' w1 hown1 hb1 hsz1
      rw [← upTo_succ] at hown1
      have hb2 := (hbw.alloc hsz _).trans hb1
      clear hown hb1 c0 c1
      go_wp2
      go_roundw
      case rel => exact ⟨k + 1, by omega, by go_num, hown1, hb2⟩
      case measure => simp [intOf]; omega
    · obtain rfl : k = m := by omega
      rcases hown.forms with ⟨_, he⟩ | ⟨g, c, rfl, hgb, _⟩
      · exact absurd (congrArg List.length he) (by rw [upTo_length]; simp; omega)
      · rw [upTo_length] at hown ⊢
        have HOW := Lib.hid hown
        have HB0 := Lib.hid hbw
        clear hown hbw
        go_wp2
        clear c0 c1
        go_loopw [7, 8, 9, 10, 11] (fun gr i _ _ _ wr => ∃ (j : Nat) (p : List Int) (G : Int), j ≤ es.length ∧ i = .int .i64 j ∧ gr = .int .i64 G ∧ Hid (partS k es x j = (p, G)) ∧ OwnI wr w.heap.size (.slice (some ⟨g, 0, none⟩) k c) p ∧ Below w.heap.size w wr) (fun _ i _ _ _ _ => es.length - (intOf i).toNat)
        case atStart => exact ⟨0, _, _, Nat.zero_le _, rfl, rfl, Lib.hid rfl, HOW.out, HB0.out⟩
        case round =>
          clear HOW HB0
          obtain ⟨j, p, G, hj, rfl, rfl, hst, hown, hbw⟩ := hrel
          obtain ⟨_, c0, c1⟩ := HC.out _ hbw
          by_cases hjt : j < es.length
          · have hok := partS_ok HE.out x j (by omega)
            rw [hst.out] at hok
            have hpl := hok.len
            have hG := hok.rng
            dsimp only at hpl hG
            obtain ⟨y, hy⟩ : ∃ y, us[j]? = some y := ⟨_, List.getElem?_eq_getElem (by rw [HU.out]; exact hjt)⟩
            obtain ⟨eb, eo, rfl, gy⟩ := (HG.out _ hbw).1.one hy
            obtain ⟨A, B, he, hAB, hBm⟩ := HE.out es[j] (List.getElem_mem hjt)
            have sy : SlI wr y [(A : Int), (B : Int)] := by have := (HG.out wr hbw).2 j hjt y hy; rw [he] at this; exact this
            have heg : es.getD j [] = [(A : Int), (B : Int)] := by rw [getD_at hjt, he]
            have HEG := Lib.hid heg
            obtain ⟨ya, yc, hye, _, _, ur⟩ := sy
            simp only [List.length_cons, List.length_nil, Nat.zero_add] at hye
            subst hye
            obtain ⟨yb, yo, rfl, g0⟩ := ur.one (i64s_get (j := 0) (by simp))
            obtain ⟨yb', yo', he2, g1⟩ := ur.one (i64s_get (j := 1) (by simp))
            simp only [Option.some.injEq, Addr.mk.injEq] at he2
            obtain ⟨rfl, rfl, _⟩ := he2
            simp only [Nat.add_zero, List.getElem_cons_zero, List.getElem_cons_succ] at g0 g1
            have hAm : A < p.length := by omega
            have hBp : B < p.length := by omega
            have pA := hown.cell (i := A) hAm
            have pB := hown.cell (i := B) hBp
            have eA : p.getD A 0 = p[A] := getD_at hAm
            have eB : p.getD B 0 = p[B] := getD_at hBp
            generalize p[A] = va at pA eA
            generalize p[B] = vb at pB eB
            have iA : (A : Int) < (k : Int) := by omega
            have iB : (B : Int) < (k : Int) := by omega
            have ij : (j : Int) < (es.length : Int) := by omega
            have hcv : IntKind.u64.wrap (j : Int) = (j : Int) := by rw [IntKind.wrap_u64]; omega
            obtain ⟨S, hS⟩ : ∃ S, S = x / 2 ^ j := ⟨_, rfl⟩
            have hSx : S ≤ x := by rw [hS]; exact Nat.div_le_self _ _
            have sh1 : (x : Int) / 2 ^ min j 64 = (S : Int) := by rw [shr_nat x j (by omega), hS]
            have sh2 : (x : Int) / 2 ^ j = (S : Int) := by rw [hS]; simp
            obtain ⟨T, hT⟩ : ∃ T, T = S % 2 := ⟨_, rfl⟩
            have an : bits .and .i64 (S : Int) 1 = (T : Int) := by rw [and_one S (by omega), hT]
            have hTT : x / 2 ^ j % 2 = T := by rw [hT, hS]
            have HT := Lib.hid hTT
            have EA := Lib.hid eA
            have EB := Lib.hid eB
            have HO := Lib.hid hown
            have HB := Lib.hid hbw
            have HPL := Lib.hid hpl
            clear hS hT hTT eA eB hown hbw hok hpl heg he hy ur
            by_cases ht : T = 0
            · have tt : ((T : Int) == 0) = true := by rw [ht]; rfl
              have hsk := Lib.hid ((partS_skip (m := k) (es := es) (HT.out.trans ht)).trans hst.out)
              clear ht
              go_wp2
              go_roundw
              case rel => exact ⟨j + 1, p, G, by omega, by go_num, rfl, hsk, HO.out, HB.out⟩
              case measure => simp [intOf]; omega
            · have tt : ((T : Int) == 0) = false := by rw [beq_eq_false_iff_ne]; omega
              have HNT := Lib.hid ht
              clear ht
              by_cases hab : va = vb
              · have ab : (va == vb) = true := by simp [hab]
                have hsk := Lib.hid (partS_same (x := x) hst.out HEG.out (by rw [EA.out, EB.out, hab]))
                clear hab
                go_wp2
                go_roundw
                case rel => exact ⟨j + 1, p, G, by omega, by go_num, rfl, hsk, HO.out, HB.out⟩
                case measure => simp [intOf]; omega
              · have ab : (va == vb) = false := by simp [hab]
                have hjn : partS k es x (j + 1) = (relab p va vb, G - 1) := by
                  have := partS_join hst.out HEG.out (by rw [HT.out]; exact HNT.out) (by rw [EA.out, EB.out]; exact hab)
                  rw [EA.out, EB.out] at this
                  exact this
                have HJN := Lib.hid hjn
                have r1 : IntKind.i64.wrap (G - 1) = G - 1 := IntWalk.i64_in _ (by omega)
                clear hab hjn
                go_wp2
                go_loopw [11] (fun i wr => ∃ q : Nat, q ≤ k ∧ i = .int .i64 q ∧ OwnI wr w.heap.size (.slice (some ⟨g, 0, none⟩) k c) (mixR p va vb q) ∧ Below w.heap.size w wr) (fun i _ => k - (intOf i).toNat)
                case atStart => exact ⟨0, Nat.zero_le _, rfl, by rw [mixR_zero]; exact HO.out, HB.out⟩
                case round =>
                  clear HO HB pA pB gy g0 g1 c0 c1
                  obtain ⟨q, hq, rfl, hown, hbw⟩ := hrel
                  by_cases hqt : q < k
                  · have hqp : q < p.length := by rw [HPL.out]; exact hqt
                    have hml : (mixR p va vb q).length = p.length := mixR_len (by omega)
                    have gq := hown.cell (i := q) (by rw [hml]; exact hqp)
                    have gf := hown.free q
                    have eq1 : p.getD q 0 = (mixR p va vb q)[q] := by rw [← mixR_at (a := va) (b := vb) hqp, getD_at (by rw [hml]; exact hqp)]
                    generalize (mixR p va vb q)[q] = vq at gq eq1
                    have iq : (q : Int) < (k : Int) := by omega
                    have EQ := Lib.hid eq1
                    have hset := hown.set q va
                    have HS := Lib.hid hset
                    have HO := Lib.hid hown
                    have HB := Lib.hid hbw
                    clear eq1 hset hown hbw hml
                    by_cases hvq : vq = vb
                    · have tq : (vq == vb) = true := by simp [hvq]
                      have hm := Lib.hid (mixR_succ (a := va) (b := vb) hqp)
                      have HVQ := Lib.hid hvq
                      clear hvq
                      go_wp2
                      go_roundw
                      case rel => exact ⟨q + 1, by omega, by go_num, by rw [hm.out, if_pos (EQ.out.trans HVQ.out)]; exact HS.out, HB.out.setCell hgb _⟩
                      case measure => simp [intOf]; omega
                    · have tq : (vq == vb) = false := by simp [hvq]
                      have hm := Lib.hid (mixR_same (a := va) (b := vb) hqp (by rw [EQ.out]; exact hvq))
                      clear hvq
                      go_wp2
                      go_roundw
                      case rel => exact ⟨q + 1, by omega, by go_num, by rw [hm.out]; exact HO.out, HB.out⟩
                      case measure => simp [intOf]; omega
                  · obtain rfl : q = k := by omega
                    rw [mixR_all _ _ _ HPL.out] at hown
                    have HO := Lib.hid hown
                    clear hown
                    go_wp2
                    go_roundw
                    case rel => exact ⟨j + 1, _, _, by omega, by go_num, rfl, HJN, HO.out, hbw⟩
                    case measure => simp [intOf]; omega
          · obtain rfl : j = es.length := by omega
            go_wp2
            go_ret
            exact ⟨ri (by rw [hst.out]), hbw⟩
end Go.Proofs.Ytbhhihaaiiaagaa
