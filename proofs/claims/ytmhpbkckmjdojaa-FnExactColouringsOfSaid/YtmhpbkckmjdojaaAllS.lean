/-
  All colourings by numbers: the reference's walk; CountColourings, both sides.
-/
import Derived.Test.YtmhpbkckmjdojaaAllL
namespace Go.Proofs.Ytmhpbkckmjdojaa
open Go.RowKit Go.Sort
theorem zeros_set {k j : Nat} {d : Int} {l : List Int} : (List.replicate (k + 1) 0 ++ l).set k d = List.replicate k 0 ++ (d :: l) := by
  rw [List.replicate_succ', List.append_assoc, List.set_append_right _ _ (by simp)]
  simp
theorem zeros_get {k i : Nat} {l : List Int} {d : Int} (h : i = k) : (List.replicate k 0 ++ (d :: l)).getD i 0 = d := by
  subst h
  rw [List.getD_eq_getElem?_getD, List.getElem?_append_right (by simp)]
  simp
set_option maxRecDepth 100000 in
set_option maxHeartbeats 8000000 in
theorem l08All_any {v u : Value} {es : List (List Int)} {part : List Int} (b o m q : Nat) (w : World) (hc : GraphAt w b o m v) (ha : SlII w v es) (hu : SlI w u part) (hE : EdgesB m es) (hm1 : 1 ≤ m) (hm : m ≤ 5) (hq1 : 1 ≤ q) (hq : q ≤ 4) (hpl : part.length = m) :
    Calls Try.prog 26 #[.pointer (some ⟨b, o, none⟩), .int .i64 q, u] w fun e w' => ∃ r, e = .returned r ∧ OwnII w' w.heap.size r (colS q part es m (q ^ m)) ∧ Below w.heap.size w w' := by
  have HA := Lib.hid (fun W (h : Below w.heap.size w W) => ha.below h)
  have HC := Lib.hid (fun W (h : Below w.heap.size w W) => hc.below h)
  have HV := Lib.hid (fun W (h : Below w.heap.size w W) => hu.below h)
  have HE := Lib.hid hE
  have HPL := Lib.hid hpl
  obtain ⟨va, vc, rfl, _, hvc, _⟩ := hu
  have own0 := OwnII.empty w (base := w.heap.size) (Nat.le_refl _)
  have b0 : Below w.heap.size w (w.alloc (.cells #[] 25)) := (Below.refl _ _).alloc (Nat.le_refl _) _
  have hps := pow_small hq hm
  have HPS := Lib.hid (fun k (h : k ≤ m) => Nat.pow_le_pow_right (n := q) (by omega) h)
  unfold maxLen at hvc
  clear ha hc hE hpl
  go_enter Try.func26, Try.ntmps26
  go_wp2
  go_loopw [8, 9] (fun c i wr => ∃ k : Nat, k ≤ m ∧ i = .int .i64 k ∧ c = .int .i64 ((q ^ k : Nat) : Int) ∧ wr = w.alloc (.cells #[] 25)) (fun _ i _ => m - (intOf i).toNat)
  case atStart => exact ⟨0, Nat.zero_le _, rfl, rfl, rfl⟩
  case round =>
    obtain ⟨k, hk, rfl, rfl, rfl⟩ := hrel
    obtain ⟨_, c0, c1⟩ := HC.out _ b0
    by_cases hlt : k < m
    · have hp1 := HPS.out (k + 1) (by omega)
      have hp0 := HPS.out k hk
      have hpk : q ^ (k + 1) = q ^ k * q := Nat.pow_succ q k
      obtain ⟨P, hP⟩ : ∃ P, P = q ^ k := ⟨_, rfl⟩
      have hpk2 : ((q ^ (k + 1) : Nat) : Int) = (P : Int) * (q : Int) := by rw [hpk, ← hP]; simp
      rw [← hP] at hp0
      rw [hpk, ← hP] at hp1
      have hmul0 : (0 : Int) ≤ (P : Int) * (q : Int) := by rw [← hpk2]; omega
      have hmul1 : (P : Int) * (q : Int) ≤ 1024 := by rw [← hpk2, hpk, ← hP]; omega
      have HPK := Lib.hid hpk2
      have HPP := Lib.hid hP
      have r0 : IntKind.i64.wrap ((P : Int) * (q : Int)) = (P : Int) * (q : Int) := IntWalk.i64_in _ (by omega)
      have r1 : wrap64 ((P : Int) * (q : Int)) = (P : Int) * (q : Int) := by rw [← IntWalk.i64_left]; exact r0
      rw [show ((q ^ k : Nat) : Int) = (P : Int) by rw [hP]]
      clear hpk hpk2 hP hp0 hp1
      go_wp2
      go_roundw
      case rel => exact ⟨k + 1, by omega, by go_num, by rw [HPK.out], trivial⟩
      case measure => simp [intOf]; omega
    · obtain rfl : k = m := by omega
      obtain ⟨N, hN⟩ : ∃ N, N = q ^ k := ⟨_, rfl⟩
      rw [← hN] at hps ⊢
      have HN := Lib.hid hN
      clear hN
      go_wp2
      go_loopw [7, 10, 11, 12, 13, 14] (fun v i _ _ _ _ wr => ∃ n : Nat, n ≤ N ∧ i = .int .i64 n ∧ OwnII wr w.heap.size v (colS q part es k n) ∧ Below w.heap.size w wr) (fun _ i _ _ _ _ _ => N - (intOf i).toNat)
      case atStart => exact ⟨0, Nat.zero_le _, rfl, by simpa [colS] using own0, b0⟩
      case round =>
        clear own0 b0 c0 c1
        obtain ⟨n, hn, rfl, hown, hbr⟩ := hrel
        obtain ⟨_, c0, c1⟩ := HC.out _ hbr
        by_cases hnt : n < N
        · have hlen := colS_len q part es k n
          have hsz := hbr.size
          have HO := Lib.hid hown
          obtain ⟨oa, on, oc, rfl, _⟩ := hown.form
          clear hown
          obtain ⟨wo, hwo⟩ : ∃ wo : World, wo = wr := ⟨_, rfl⟩
          subst hwo
          go_wp2_with (at_make; refine make_i64 wo _ _ rfl rfl k rfl rfl rfl rfl (by omega) ?_)
          intro w1 hmk hb1 hz1
          have hb1w := hbr.trans (hb1.mono hsz)
          obtain ⟨_, d0, d1⟩ := HC.out _ hb1w
          clear c0 c1
          go_wp2
          go_loopw [12, 13, 14] (fun r f i wi => ∃ j z R : Nat, j + z = k ∧ i = .int .i64 ((z : Int) - 1) ∧ r = .int .i64 (R : Int) ∧ Hid (R = n / q ^ j) ∧ f = .bool (okT part q k j n) ∧ OwnI wi wo.heap.size (.slice (some ⟨wo.heap.size, 0, none⟩) k k) (List.replicate z 0 ++ digs q j n) ∧ Below wo.heap.size wo wi) (fun _ _ i _ => (intOf i + 1).toNat)
          case atStart => exact ⟨0, k, n, by omega, by go_num, rfl, Lib.hid (by simp), rfl, by simpa [digs] using hmk, hb1⟩
          case round =>
            clear hmk hb1 hb1w d0 d1 hz1
            obtain ⟨j, z, R, hjz, rfl, rfl, hRR, rfl, hcol, hbi⟩ := hrel
            have hbw := hbr.trans (hbi.mono hsz)
            cases z with
            | zero =>
              obtain rfl : j = k := by omega
              rw [show ((0 : Nat) : Int) - 1 = -1 from rfl]
              simp only [List.replicate_zero, List.nil_append] at hcol
              obtain ⟨_, d0, d1⟩ := HC.out _ hbw
              have hdl := digs_len q n j
              have hgood : goodC part es q j n = (okT part q j j n && properB es (digs q j n)) := rfl
              generalize okT part q j j n = f at hgood
              generalize hpb : properB es (digs q j n) = P at hgood
              have HPB := Lib.hid hpb
              have HG := Lib.hid hgood
              have HCOL := Lib.hid hcol
              have HDL := Lib.hid hdl
              have HBI := Lib.hid hbi
              clear hgood hpb hcol hdl
              cases f
              · go_wp2
                go_roundw
                case rel => exact ⟨n + 1, by omega, by go_num, by rw [colS_no HG.out]; exact HO.out.below hbi, hbw⟩
                case measure => simp [intOf]; omega
              · go_wp2_with fail
                refine (l08Proper_any b o j j _ (HC.out _ hbw) (HA.out _ hbw) HCOL.out.sl HE.out HDL.out).mono ?_
                rintro e w2 ⟨rfl, b2⟩
                rw [HPB.out]
                have hb2 := hbi.trans (b2.mono hbi.size)
                have hbw2 := hbr.trans (hb2.mono hsz)
                have hcol2 := HCOL.out.below b2
                have hzz := hb2.size
                clear b2 d0 d1
                cases P
                · go_wp2
                  go_roundw
                  case rel => exact ⟨n + 1, by omega, by go_num, by rw [colS_no HG.out]; exact HO.out.below hb2, hbw2⟩
                  case measure => simp [intOf]; omega
                · go_wp2_with (at_builtin; refine append_row wo w2 _ _ rfl rfl rfl HO.out hb2 hcol2 rfl (by omega) hsz ?_)
                  intro v' w3 o3 b3 z3
                  rw [← colS_yes HG.out] at o3
                  have hb3 := (hbw2.alloc (Nat.le_trans hsz hzz) _).trans b3
                  clear hcol2 b3
                  go_wp2
                  go_roundw
                  case rel => exact ⟨n + 1, by omega, by go_num, o3, hb3⟩
                  case measure => simp [intOf]; omega
            | succ z =>
              have hz1 : ((z + 1 : Nat) : Int) - 1 = (z : Int) := by omega
              rw [hz1]
              have hzk : z < k := by omega
              have hcl : (List.replicate (z + 1) 0 ++ digs q j n).length = k := by simp [digs_len]; omega
              have hset := hcol.set z ((((n / q ^ j % q : Nat) : Int)))
              rw [zeros_set (j := 0)] at hset
              have gz := hcol.cell (i := z) (by rw [hcl]; exact hzk)
              have gf := hcol.free z
              have hok := okT_succ part q k j n
              rw [show k - 1 - j = z by omega] at hok
              have hRn : R ≤ n := by rw [hRR.out]; exact Nat.div_le_self _ _
              have hRq : n / q ^ (j + 1) = R / q := by rw [hRR.out, Nat.pow_succ, Nat.div_div_eq_div_mul]
              rw [← hRR.out] at hok hset
              have hdig : digs q (j + 1) n = ((R % q : Nat) : Int) :: digs q j n := by rw [hRR.out]; rfl
              rw [← hdig] at hset
              obtain ⟨D, hD⟩ : ∃ D : Nat, D = R % q := ⟨_, rfl⟩
              have hDm : (R : Int) % (q : Int) = (D : Int) := by rw [hD]; simp
              obtain ⟨T, hT⟩ : ∃ T : Nat, T = R / q := ⟨_, rfl⟩
              have hTR : T ≤ R := by rw [hT]; exact Nat.div_le_self _ _
              have hDq : (R : Int) / (q : Int) = (T : Int) := by rw [hT]; simp
              rw [← hD] at hok hset
              have hnp : z < part.length := by rw [HPL.out]; exact hzk
              obtain ⟨_, _, he', _, _, vr0⟩ := HV.out _ (Below.refl _ _)
              simp only [Value.slice.injEq] at he'
              obtain ⟨rfl, _, rfl⟩ := he'
              obtain ⟨pb, po, hva, gp0⟩ := vr0.one (i64s_get hnp)
              obtain ⟨_, _, he2, _, _, vr1⟩ := HV.out _ hbw
              simp only [Value.slice.injEq] at he2
              obtain ⟨rfl, _, rfl⟩ := he2
              subst hva
              obtain ⟨pb', po', hva', gp⟩ := vr1.one (i64s_get hnp)
              simp only [Option.some.injEq, Addr.mk.injEq] at hva'
              obtain ⟨rfl, rfl, _⟩ := hva'
              have gpb : pb < w.heap.size := cell_lt gp0
              have hne : pb ≠ wo.heap.size := by omega
              clear gp0 vr0 vr1
              have gp2 : (wr.setCell ⟨wo.heap.size, z, none⟩ (.int .i64 (D : Int))).cell? ⟨pb, po + z, none⟩ = some (.int .i64 part[z]) := by
                rw [World.cell?_of_block (heap_setCell_other _ _ _ _ hne)]; exact gp
              have gq : (wr.setCell ⟨wo.heap.size, z, none⟩ (.int .i64 (D : Int))).cell? ⟨wo.heap.size, z, none⟩ = some (.int .i64 (D : Int)) := by simp [go_sem, gz]
              have hbs : Below wo.heap.size wo (wr.setCell ⟨wo.heap.size, z, none⟩ (.int .i64 (D : Int))) := hbi.setCell (Nat.le_refl _) _
              have hgd : part.getD z 0 = part[z] := getD_at hnp
              generalize part[z] = pc0 at gp gp2 hgd
              rw [← hT] at hRq
              clear hT
              have hps2 := hps
              have hTd : Int.tdiv (R : Int) (q : Int) = (T : Int) := by rw [Int.tdiv_eq_ediv_of_nonneg (by omega)]; exact hDq
              have hDd : Int.tmod (R : Int) (q : Int) = (D : Int) := by rw [Int.tmod_eq_emod_of_nonneg (by omega)]; exact hDm
              have r1 : IntKind.i64.wrap (T : Int) = (T : Int) := IntWalk.i64_in _ (by omega)
              have r2 : IntKind.i64.wrap (D : Int) = (D : Int) := IntWalk.i64_in _ (by have := Nat.mod_le R q; omega)
              clear hD hDm hDq hps2
              have iz1 : (z : Int) < (part.length : Int) := by omega
              have iz2 : (z : Int) < (k : Int) := by omega
              have HS := Lib.hid hset
              have HBS := Lib.hid hbs
              have HRQ := Lib.hid hRq
              have qne : ¬ ((q : Int) = 0) := by omega
              have qnz : ¬ q = 0 := by omega
              generalize okT part q k j n = f at hok
              clear hset hbs hRq hdig
              cases f
              · have HOK := Lib.hid hok
                clear hok
                go_wp2
                generalize hw2 : wr.setCell ⟨wo.heap.size, z, none⟩ (Value.int .i64 (D : Int)) = w2 at HS HBS gp2 gq ⊢
                clear hw2 gz gf gp
                have kp := fun d os => cell_regrown gp2 d os
                have kq := fun d os => cell_regrown gq d os
                refine wp_region_quiet_below (by kernel_rfl) (by kernel_rfl) ?_
                repeat (first | go_big_quiet_skip | quiet_step (first | fail))
                refine wpQuiet_nil ?_
                intro _ hw'
                obtain ⟨⟨dq, osq⟩, hw''⟩ := hw'
                subst hw''
                have bq0 := below_regrown w2 dq osq
                generalize grow (redrawn w2 dq) osq = wq at bq0 ⊢
                have HS2 := Lib.hid (HS.out.below bq0)
                have HB2 := Lib.hid (HBS.out.trans (bq0.mono HBS.out.size))
                go_wp2
                go_roundw
                case rel => exact ⟨j + 1, z, T, by omega, by go_num, by go_num, HRQ.out.symm, by rw [HOK.out]; rfl, HS2.out, HB2.out⟩
                case measure => simp [intOf]
              · by_cases hneg : pc0 < 0
                · have HOK := Lib.hid (hok.trans (by rw [okP_yes (.inl (by rw [hgd]; exact hneg))]; rfl) : okT part q k (j + 1) n = true)
                  clear hok
                  go_wp2
                  generalize hw2 : wr.setCell ⟨wo.heap.size, z, none⟩ (Value.int .i64 (D : Int)) = w2 at HS HBS gp2 gq ⊢
                  clear hw2 gz gf gp
                  have kp := fun d os => cell_regrown gp2 d os
                  have kq := fun d os => cell_regrown gq d os
                  refine wp_region_quiet_below (by kernel_rfl) (by kernel_rfl) ?_
                  repeat (first | go_big_quiet_skip | quiet_step (first | fail))
                  refine wpQuiet_nil ?_
                  intro _ hw'
                  obtain ⟨⟨dq, osq⟩, hw''⟩ := hw'
                  subst hw''
                  have bq0 := below_regrown w2 dq osq
                  generalize grow (redrawn w2 dq) osq = wq at bq0 ⊢
                  have HS2 := Lib.hid (HS.out.below bq0)
                  have HB2 := Lib.hid (HBS.out.trans (bq0.mono HBS.out.size))
                  go_wp2
                  go_roundw
                  case rel => exact ⟨j + 1, z, T, by omega, by go_num, by go_num, HRQ.out.symm, by first | (rw [HOK.out]; done) | (rw [HOK.out]; simp; omega), HS2.out, HB2.out⟩
                  case measure => simp [intOf]
                · by_cases heq : pc0 = (D : Int)
                  · have t1 : (pc0 == (D : Int)) = true := by simp [heq]
                    have HOK := Lib.hid (hok.trans (by rw [okP_yes (.inr (by rw [hgd]; exact heq))]; rfl) : okT part q k (j + 1) n = true)
                    clear hok heq
                    go_wp2
                    generalize hw2 : wr.setCell ⟨wo.heap.size, z, none⟩ (Value.int .i64 (D : Int)) = w2 at HS HBS gp2 gq ⊢
                    clear hw2 gz gf gp
                    have kp := fun d os => cell_regrown gp2 d os
                    have kq := fun d os => cell_regrown gq d os
                    refine wp_region_quiet_below (by kernel_rfl) (by kernel_rfl) ?_
                    repeat (first | go_big_quiet_skip | quiet_step (first | fail))
                    refine wpQuiet_nil ?_
                    intro _ hw'
                    obtain ⟨⟨dq, osq⟩, hw''⟩ := hw'
                    subst hw''
                    have bq0 := below_regrown w2 dq osq
                    generalize grow (redrawn w2 dq) osq = wq at bq0 ⊢
                    have HS2 := Lib.hid (HS.out.below bq0)
                    have HB2 := Lib.hid (HBS.out.trans (bq0.mono HBS.out.size))
                    go_wp2
                    go_roundw
                    case rel => exact ⟨j + 1, z, T, by omega, by go_num, by go_num, HRQ.out.symm, by first | (rw [HOK.out]; done) | (rw [HOK.out]; simp; omega), HS2.out, HB2.out⟩
                    case measure => simp [intOf]
                  · have t1 : (pc0 == (D : Int)) = false := by simp [heq]
                    have HOK := Lib.hid (hok.trans (by rw [okP_no (by rw [hgd]; exact hneg) (by rw [hgd]; exact heq)]; rfl) : okT part q k (j + 1) n = false)
                    clear hok heq
                    go_wp2
                    generalize hw2 : wr.setCell ⟨wo.heap.size, z, none⟩ (Value.int .i64 (D : Int)) = w2 at HS HBS gp2 gq ⊢
                    clear hw2 gz gf gp
                    have kp := fun d os => cell_regrown gp2 d os
                    have kq := fun d os => cell_regrown gq d os
                    refine wp_region_quiet_below (by kernel_rfl) (by kernel_rfl) ?_
                    repeat (first | go_big_quiet_skip | quiet_step (first | fail))
                    refine wpQuiet_nil ?_
                    intro _ hw'
                    obtain ⟨⟨dq, osq⟩, hw''⟩ := hw'
                    subst hw''
                    have bq0 := below_regrown w2 dq osq
                    generalize grow (redrawn w2 dq) osq = wq at bq0 ⊢
                    have HS2 := Lib.hid (HS.out.below bq0)
                    have HB2 := Lib.hid (HBS.out.trans (bq0.mono HBS.out.size))
                    go_wp2
                    go_roundw
                    case rel => exact ⟨j + 1, z, T, by omega, by go_num, by go_num, HRQ.out.symm, by first | (rw [HOK.out]; done) | (rw [HOK.out]; simp; omega), HS2.out, HB2.out⟩
                    case measure => simp [intOf]
        · obtain rfl : n = N := by omega
          rw [HN.out] at hown
          obtain ⟨oa, on, oc, rfl, _⟩ := hown.form
          go_wp2
          go_ret
          exact ⟨_, rfl, hown, hbr⟩
end Go.Proofs.Ytmhpbkckmjdojaa
