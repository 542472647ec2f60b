/-
  ReadDeed: the plain law, and both sides. With it: The text of a journal, both sides. Records read from lines: the plain law, and both sides. Records read from lines: the walks.
-/
import Derived.Test.YtofpelmplcoegaaGreatZRowFnPlantScript11
import Derived.Deep.DeepCutAuto
set_option linter.unusedVariables false
set_option linter.unusedSimpArgs false
namespace Go.Proofs.YtofpelmplcoegaaGreat
open Go.RowKit Go.Sort
def ixR (p : Int × Int × Int → Bool) : List (Int × Int × Int) → Nat → Int
  | [], _ => -1
  | x :: r, k => if p x = true then (k : Int) else ixR p r (k + 1)
def recsOk (s sm : Int) (xs : List (Int × Int × Int)) : Bool := !(xs.any fun x => !recOk s sm x.1 x.2.1 x.2.2)
def validRecsB (s t : Int) (xss : List (List Int)) (bs sm wk : Int) (xs : List (Int × Int × Int)) : Bool := serviceOk s t xss bs sm wk && recsOk s sm xs
theorem service_bds {s t : Int} {xss : List (List Int)} {bs sm wk : Int} (h : serviceOk s t xss bs sm wk = true) : 1 ≤ s ∧ s ≤ 6 ∧ 1 ≤ sm ∧ sm ≤ 8 ∧ 1 ≤ wk ∧ wk ≤ 4 ∧ 0 ≤ bs ∧ bs ≤ 999999992 := by
  unfold serviceOk at h
  rw [Bool.and_eq_true, Bool.and_eq_true, Bool.and_eq_true] at h
  have h1 := (chainOk_parts h.1).1
  have h2 := inR_iff.1 h.2.1
  have h3 := inR_iff.1 h.2.2.1
  have h4 := inR_iff.1 h.2.2.2
  omega
/-- a right record is one of three kinds, with small numbers -/
theorem recOk_nat {s sm k x v : Int} (h : recOk s sm k x v = true) (h2 : sm ≤ 8) (h4 : s ≤ 6) : (k = 1 ∨ k = 2 ∨ k = 3) ∧ ∃ a b : Nat, x = (a : Int) ∧ v = (b : Int) ∧ a < 1000 ∧ b < 1000 := by
  unfold recOk at h
  rw [Bool.and_eq_true] at h
  obtain ⟨ha, hb⟩ := h
  have hx := inR_iff.1 ha
  obtain ⟨a, rfl⟩ := Int.eq_ofNat_of_zero_le hx.1
  have hv : (k = 1 ∨ k = 2 ∨ k = 3) ∧ 0 ≤ v ∧ v ≤ 7 := by
    split at hb
    · rename_i hk; have := inR_iff.1 hb; omega
    · split at hb
      · rename_i hk; have := inR_iff.1 hb; omega
      · split at hb
        · rename_i hk; have := of_decide_eq_true hb; omega
        · simp at hb
  obtain ⟨b, rfl⟩ := Int.eq_ofNat_of_zero_le hv.2.1
  exact ⟨hv.1, a, b, rfl, rfl, by omega, by omega⟩
/-- lines behind a text -/
def linesR (acc : ByteArray) : List (Int × Int × Int) → ByteArray
  | [] => acc
  | x :: r => linesR (acc ++ (recB x.1 x.2.1.toNat x.2.2.toNat ++ ⟨#[10]⟩)) r
theorem linesR_step {acc : ByteArray} {l : List (Int × Int × Int)} {k : Nat} (h : k < l.length) : linesR acc (l.drop k) = linesR (acc ++ (recB l[k].1 l[k].2.1.toNat l[k].2.2.toNat ++ ⟨#[10]⟩)) (l.drop (k + 1)) := by
  rw [List.drop_eq_getElem_cons h]; rfl
def jTextB (s t : Int) (xss : List (List Int)) (bs sm wk : Int) (xs : List (Int × Int × Int)) : ByteArray := if validRecsB s t xss bs sm wk xs = true then linesR ⟨#[]⟩ xs else ⟨#[]⟩
set_option maxHeartbeats 2000000 in
theorem l09Line_any (k : Int) (s v : Nat) (w : World) (hk : k = 1 ∨ k = 2 ∨ k = 3) (hs : s < 1000) (hv : v < 1000) :
    Calls Tryz.prog 126 #[.agg #[.int .i64 k, .int .i64 s, .int .i64 v]] w fun e w' => e = .returned (.string (recB k s v ++ ⟨#[10]⟩)) ∧ Below w.heap.size w w' := by
  have h1 := decB_size_le (k := 2) (n := s) hs
  have h2 := decB_size_le (k := 2) (n := v) hv
  have D1 := Lib.hid (fun u => Decimal_any 2 s u hs (by omega))
  have D2 := Lib.hid (fun u => Decimal_any 2 v u hv (by omega))
  generalize hds : decB s = ds at h1 D1
  generalize hdv : decB v = dv at h2 D2
  have HDS := Lib.hid hds
  have HDV := Lib.hid hdv
  clear hds hdv hs hv
  have W : ∀ (kk : Nat) (word : ByteArray), (kk = 1 ∨ kk = 2 ∨ kk = 3) → word.size ≤ 4 → (#[(⟨#[]⟩ : ByteArray), ⟨#[117, 112, 32]⟩, ⟨#[103, 111, 116, 32]⟩, ⟨#[111, 117, 116, 32]⟩] : Array ByteArray)[kk]? = some word →
      (∀ t, recB (kk : Int) s v = t → t = if kk = 3 then word ++ ds else word ++ ds ++ (⟨#[32]⟩ ++ dv)) →
      Calls Tryz.prog 126 #[.agg #[.int .i64 kk, .int .i64 s, .int .i64 v]] w fun e w' => e = .returned (.string (recB kk s v ++ ⟨#[10]⟩)) ∧ Below w.heap.size w w' := by
    intro kk word hkk hw hword hrec
    have HREC := Lib.hid hrec
    have bx : Below w.heap.size w ((w.alloc (.cells #[.int .i64 kk, .int .i64 s, .int .i64 v] 118)).alloc (.cells #[.string ⟨#[]⟩, .string ⟨#[117, 112, 32]⟩, .string ⟨#[103, 111, 116, 32]⟩, .string ⟨#[111, 117, 116, 32]⟩] 9)) := ((Below.refl _ _).alloc (Nat.le_refl _) _).alloc (by simp) _
    have g0 : ((w.alloc (.cells #[.int .i64 kk, .int .i64 s, .int .i64 v] 118)).alloc (.cells #[.string ⟨#[]⟩, .string ⟨#[117, 112, 32]⟩, .string ⟨#[103, 111, 116, 32]⟩, .string ⟨#[111, 117, 116, 32]⟩] 9)).cell? ⟨w.heap.size, 0, none⟩ = some (.int .i64 kk) := by simp [go_sem]
    have g1 : ((w.alloc (.cells #[.int .i64 kk, .int .i64 s, .int .i64 v] 118)).alloc (.cells #[.string ⟨#[]⟩, .string ⟨#[117, 112, 32]⟩, .string ⟨#[103, 111, 116, 32]⟩, .string ⟨#[111, 117, 116, 32]⟩] 9)).cell? ⟨w.heap.size, 1, none⟩ = some (.int .i64 s) := by simp [go_sem]
    have g2 : ((w.alloc (.cells #[.int .i64 kk, .int .i64 s, .int .i64 v] 118)).alloc (.cells #[.string ⟨#[]⟩, .string ⟨#[117, 112, 32]⟩, .string ⟨#[103, 111, 116, 32]⟩, .string ⟨#[111, 117, 116, 32]⟩] 9)).cell? ⟨w.heap.size, 2, none⟩ = some (.int .i64 v) := by simp [go_sem]
    have gw : ((w.alloc (.cells #[.int .i64 kk, .int .i64 s, .int .i64 v] 118)).alloc (.cells #[.string ⟨#[]⟩, .string ⟨#[117, 112, 32]⟩, .string ⟨#[103, 111, 116, 32]⟩, .string ⟨#[111, 117, 116, 32]⟩] 9)).cell? ⟨w.heap.size + 1, kk, none⟩ = some (.string word) := by
      rcases hkk with rfl | rfl | rfl <;> (simp at hword; subst hword; simp [go_sem])
    have hk0 : (0 : Int) ≤ (kk : Int) := by omega
    have hk4 : (kk : Int) < 4 := by omega
    have z1 : ¬ 9223372036854775807 < word.size + ds.size := by omega
    have z2 : ¬ 9223372036854775807 < 1 + dv.size := by omega
    have z3 : ¬ 9223372036854775807 < word.size + ds.size + (1 + dv.size) := by omega
    have z4 : ¬ 9223372036854775807 < word.size + ds.size + (1 + dv.size) + 1 := by omega
    have z5 : ¬ 9223372036854775807 < word.size + ds.size + 1 := by omega
    have key : ((kk : Int) != 3) = !decide (kk = 3) := by rcases hkk with rfl | rfl | rfl <;> rfl
    clear hword hrec
    generalize hb3 : decide (kk = 3) = b3 at key
    have HB3 := Lib.hid hb3
    clear hb3 hkk
    cases b3
    · go_enter Tryz.func126, Tryz.ntmps126
      go_upto_region 2 with (fail)
      generalize hW : (w.alloc (.cells #[.int .i64 kk, .int .i64 s, .int .i64 v] 118)).alloc (.cells #[.string ⟨#[]⟩, .string ⟨#[117, 112, 32]⟩, .string ⟨#[103, 111, 116, 32]⟩, .string ⟨#[111, 117, 116, 32]⟩] 9) = W at *
      clear hW
      have k0 := fun d os => cell_regrown g0 d os
      have k1 := fun d os => cell_regrown g1 d os
      have kw := fun d os => cell_regrown gw d os
      refine wp_region_quiet_below (by kernel_rfl) (by kernel_rfl) ?_
      repeat (first | go_big_quiet_skip | quiet_step (exact Calls.regrown_of (D1.out _)))
      refine wpQuiet_nil ?_
      intro _ hw'
      obtain ⟨⟨dq, osq⟩, hw''⟩ := hw'
      subst hw''
      have bq := bx.trans ((below_regrown W dq osq).mono bx.size)
      have q0 := k0 dq osq
      have q2 := fun d os => k0 d os
      have r0 := cell_regrown g0 dq osq
      have r2 := cell_regrown g2 dq osq
      generalize grow (redrawn W dq) osq = wq at bq r0 r2 ⊢
      clear k0 k1 kw g0 g1 g2 gw q0 q2
      go_wp2_with (go_at_call 25; refine (D2.out _).mono ?_; rintro e w3 ⟨rfl, b3⟩)
      go_ret
      exact ⟨rs (by rw [HREC.out _ rfl, if_neg (of_decide_eq_false HB3.out)]), bq.trans (b3.mono bq.size)⟩
    · go_enter Tryz.func126, Tryz.ntmps126
      go_upto_region 2 with (fail)
      generalize hW : (w.alloc (.cells #[.int .i64 kk, .int .i64 s, .int .i64 v] 118)).alloc (.cells #[.string ⟨#[]⟩, .string ⟨#[117, 112, 32]⟩, .string ⟨#[103, 111, 116, 32]⟩, .string ⟨#[111, 117, 116, 32]⟩] 9) = W at *
      clear hW
      have k0 := fun d os => cell_regrown g0 d os
      have k1 := fun d os => cell_regrown g1 d os
      have kw := fun d os => cell_regrown gw d os
      refine wp_region_quiet_below (by kernel_rfl) (by kernel_rfl) ?_
      repeat (first | go_big_quiet_skip | quiet_step (exact Calls.regrown_of (D1.out _)))
      refine wpQuiet_nil ?_
      intro _ hw'
      obtain ⟨⟨dq, osq⟩, hw''⟩ := hw'
      subst hw''
      have bq := bx.trans ((below_regrown W dq osq).mono bx.size)
      have r0 := cell_regrown g0 dq osq
      generalize grow (redrawn W dq) osq = wq at bq r0 ⊢
      clear k0 k1 kw g0 g1 g2 gw
      go_wp2
      go_ret
      exact ⟨rs (by rw [HREC.out _ rfl, if_pos (of_decide_eq_true HB3.out)]), bq⟩
  rcases hk with rfl | rfl | rfl
  · exact W 1 ⟨#[117, 112, 32]⟩ (by simp) (by decide) rfl (fun t ht => by subst ht; rw [if_neg (by decide)]; unfold recB; rw [if_pos (by decide), HDS.out, HDV.out, app_assoc, app_assoc, app_assoc])
  · exact W 2 ⟨#[103, 111, 116, 32]⟩ (by simp) (by decide) rfl (fun t ht => by subst ht; rw [if_neg (by decide)]; unfold recB; rw [if_neg (by decide), if_pos (by decide), HDS.out, HDV.out, app_assoc, app_assoc, app_assoc])
  · exact W 3 ⟨#[111, 117, 116, 32]⟩ (by simp) (by decide) rfl (fun t ht => by subst ht; rw [if_pos rfl]; unfold recB; rw [if_neg (by decide), if_neg (by decide), HDS.out])

theorem any_atR {p : Int × Int × Int → Bool} {l : List (Int × Int × Int)} {k : Nat} (hk : k < l.length) (he : p l[k] = true) : l.any p = true := by
  rw [List.any_eq_true]; exact ⟨_, List.getElem_mem hk, he⟩
theorem any_takeR {p : Int × Int × Int → Bool} {l : List (Int × Int × Int)} {k : Nat} (h : (l.take k).any p = false) (hk : k < l.length) (he : p l[k] = false) : (l.take (k + 1)).any p = false := by
  rw [List.take_succ_eq_append_getElem hk, List.any_append, h]; simp [he]
set_option maxHeartbeats 2000000 in
theorem SpecJournalText_any {v rv : Value} {xss : List (List Int)} {xs : List (Int × Int × Int)} (s t bs sm wk : Int) (w : World) (ha : SlII w v xss) (hr : FRecord.Sl w rv xs) (hl : xs.length ≤ 1048576) :
    Calls Tryz.prog 127 #[.agg #[.int .i64 s, .int .i64 t, v, .int .i64 bs, .int .i64 sm, .int .i64 wk], rv] w fun e w' => e = .returned (.string (jTextB s t xss bs sm wk xs)) ∧ Below w.heap.size w w' := by
  have HA := Lib.hid (fun W (h : Below w.heap.size w W) => ha.below h)
  have HR := Lib.hid (fun W (h : Below w.heap.size w W) => hr.below h)
  obtain ⟨a, ca, us, rfl, _, _, _, _, _⟩ := ha
  obtain ⟨ra, rc, rfl, _⟩ := hr
  have bx : Below w.heap.size w (w.alloc (svObj s t (.slice a xss.length ca) bs sm wk)) := (Below.refl _ _).alloc (Nat.le_refl _) _
  have X := Lib.hid (svBox w s t (.slice a xss.length ca) bs sm wk)
  generalize hv : serviceOk s t xss bs sm wk = V
  have HV := Lib.hid hv
  cases V
  · clear hv
    go_enter Tryz.func127, Tryz.ntmps127
    go_wp2_with fail
    refine (l09Ok_any w.heap.size 0 s t bs sm wk _ X.out (HA.out _ bx)).mono ?_
    rintro e w1 ⟨rfl, b1⟩
    rw [HV.out]
    go_wp2
    go_ret
    exact ⟨rs (by unfold jTextB validRecsB; rw [HV.out]; rfl), bx.trans (b1.mono bx.size)⟩
  · obtain ⟨h1, h2, h3, h4, _⟩ := service_bds hv
    clear hv
    go_enter Tryz.func127, Tryz.ntmps127
    go_wp2_with fail
    refine (l09Ok_any w.heap.size 0 s t bs sm wk _ X.out (HA.out _ bx)).mono ?_
    rintro e w1 ⟨rfl, b1⟩
    rw [HV.out]
    have hb1 := bx.trans (b1.mono bx.size)
    have X1 := Lib.hid (X.out.below b1)
    clear b1
    go_wp2
    go_loopw [5, 6] (fun o i wr => ∃ (k : Nat) (acc : ByteArray), k ≤ xs.length ∧ i = .int .i64 k ∧ o = .string acc ∧ acc.size ≤ 32 * k ∧ Hid (linesR ⟨#[]⟩ xs = linesR acc (xs.drop k)) ∧ Hid ((xs.take k).any (fun x => !recOk s sm x.1 x.2.1 x.2.2) = false) ∧ Below w1.heap.size w1 wr) (fun _ i _ => xs.length - (intOf i).toNat)
    case atStart => exact ⟨0, ⟨#[]⟩, Nat.zero_le _, rfl, rfl, Nat.le_refl _, rfl, rfl, Below.refl _ _⟩
    case round =>
      obtain ⟨k, acc, hk, rfl, rfl, hsz, hln, hno, hbr⟩ := hrel
      have hbw := hb1.trans (hbr.mono hb1.size)
      by_cases hlt : k < xs.length
      · obtain ⟨b, off, rfl, hblk, c0, c1, c2⟩ := FRecord_at (HR.out _ hbw) hlt
        have i1 : (k : Int) < (xs.length : Int) := by omega
        generalize hp : recOk s sm xs[k].1 xs[k].2.1 xs[k].2.2 = P
        have HP := Lib.hid hp
        cases P
        · clear hp
          go_wp2_with fail
          refine (l09Record_any w.heap.size 0 s t bs sm wk xs[k].1 xs[k].2.1 xs[k].2.2 _ (X1.out.below hbr) h3 h4 h1 h2).mono ?_
          rintro e w3 ⟨rfl, b3⟩
          rw [HP.out]
          go_wp2
          go_ret
          exact ⟨rs (by
            unfold jTextB validRecsB recsOk
            rw [HV.out, any_atR (k := k) hlt (by rw [HP.out]; rfl)]; rfl), hbw.trans (b3.mono hbw.size)⟩
        · obtain ⟨hkk, x, y, hx, hy, hx1, hy1⟩ := recOk_nat hp h4 h2
          have hst := linesR_step (acc := acc) hlt
          have HNO := Lib.hid (any_takeR hno.out hlt (by rw [hp]; rfl))
          rw [hx, hy] at hst
          simp only [Int.toNat_natCast] at hst
          rw [hx] at c1
          rw [hy] at c2
          have hp2 := hp
          rw [hx, hy] at hp2
          generalize xs[k].1 = kd at hst hkk c0 hp2
          have hrz := recB_size (k := kd) hx1 hy1
          have HST := Lib.hid hst
          have HKK := Lib.hid hkk
          have HP2 := Lib.hid hp2
          have z2 : ¬ 9223372036854775807 < acc.size + ((recB kd x y).size + 1) := by omega
          clear hst hkk hx hy hp hp2
          go_wp2_with fail
          refine (l09Record_any w.heap.size 0 s t bs sm wk kd x y _ (X1.out.below hbr) h3 h4 h1 h2).mono ?_
          rintro e w3 ⟨rfl, b3⟩
          rw [HP2.out]
          have c0' := b3.cell (p := ⟨b, off + k * 3, none⟩) hblk
          have c1' := b3.cell (p := ⟨b, off + k * 3 + 1, none⟩) hblk
          have c2' := b3.cell (p := ⟨b, off + k * 3 + 2, none⟩) hblk
          rw [c0] at c0'
          rw [c1] at c1'
          rw [c2] at c2'
          have hb3 := hbr.trans (b3.mono hbr.size)
          clear c0 c1 c2 b3
          go_wp2_with (go_at_call 126; refine (l09Line_any kd x y _ HKK.out hx1 hy1).mono ?_; rintro e w4 ⟨rfl, b4⟩)
          go_roundw
          case rel => exact ⟨k + 1, _, by omega, by go_num, rfl, by rw [ByteArray.size_append, ByteArray.size_append]; show _ + (_ + 1) ≤ _; omega, by unfold Hid at *; rw [hln, HST], HNO.out, hb3.trans (b4.mono hb3.size)⟩
          case measure => simp [intOf]; omega
      · obtain rfl : k = xs.length := by omega
        go_wp2
        go_ret
        exact ⟨rs (by
          have h5 := hno.out
          rw [List.take_length] at h5
          unfold jTextB validRecsB recsOk
          rw [HV.out, h5, hln.out]; simp [linesR]), hbw⟩
end Go.Proofs.YtofpelmplcoegaaGreat
namespace Go.Proofs.YtofpelmplcoegaaGreat
open Go.RowKit Go.Sort

theorem dec_sp (n : Nat) : (32 : UInt8) ∉ (decB n).data.toList := by
  intro h
  have h2 := dec_all n 32 (by simpa [decB] using h)
  have : (32 : UInt8).toNat = 32 := rfl
  omega
def IsRec (st sm : Int) (line : ByteArray) (r : Int × Int × Int) : Prop := recOk st sm r.1 r.2.1 r.2.2 = true ∧ recB r.1 r.2.1.toNat r.2.2.toNat = line
def upB : ByteArray := ⟨#[117, 112]⟩
def gotB : ByteArray := ⟨#[103, 111, 116]⟩
def outB : ByteArray := ⟨#[111, 117, 116]⟩
theorem recB_one (s v : Nat) : recB 1 s v = upB ++ (mkB [32] ++ (decB s ++ (mkB [32] ++ decB v))) := by
  unfold recB; rw [if_pos rfl]
  apply bext; simp [upB, mkB]
theorem recB_two (s v : Nat) : recB 2 s v = gotB ++ (mkB [32] ++ (decB s ++ (mkB [32] ++ decB v))) := by
  unfold recB; rw [if_neg (by decide), if_pos rfl]
  apply bext; simp [gotB, mkB]
theorem recB_three (s v : Nat) : recB 3 s v = outB ++ (mkB [32] ++ decB s) := by
  unfold recB; rw [if_neg (by decide), if_neg (by decide)]
  apply bext; simp [outB, mkB]
theorem cuts_rec1 (s v : Nat) : cuts (recB 1 s v) 32 = [upB, decB s, decB v] := by
  rw [recB_one, cuts_app (by decide), cuts_app (dec_sp _), cuts_one (dec_sp _)]
theorem cuts_rec2 (s v : Nat) : cuts (recB 2 s v) 32 = [gotB, decB s, decB v] := by
  rw [recB_two, cuts_app (by decide), cuts_app (dec_sp _), cuts_one (dec_sp _)]
theorem cuts_rec3 (s v : Nat) : cuts (recB 3 s v) 32 = [outB, decB s] := by
  rw [recB_three, cuts_app (by decide), cuts_one (dec_sp _)]
/-- what words say of a right record -/
theorem isRec_words {st sm : Int} {line : ByteArray} {r : Int × Int × Int} (h : IsRec st sm line r) (h2 : sm ≤ 8) (h4 : st ≤ 6) :
    (r.1 = 1 ∧ ∃ a b : Nat, r.2.1 = (a : Int) ∧ r.2.2 = (b : Int) ∧ a < 1000 ∧ b < 1000 ∧ cuts line 32 = [upB, decB a, decB b]) ∨
    (r.1 = 2 ∧ ∃ a b : Nat, r.2.1 = (a : Int) ∧ r.2.2 = (b : Int) ∧ a < 1000 ∧ b < 1000 ∧ cuts line 32 = [gotB, decB a, decB b]) ∨
    (r.1 = 3 ∧ ∃ a : Nat, r.2.1 = (a : Int) ∧ r.2.2 = 0 ∧ a < 1000 ∧ cuts line 32 = [outB, decB a]) := by
  obtain ⟨h1, e⟩ := h
  obtain ⟨hk, a, b, ha, hb, ha1, hb1⟩ := recOk_nat h1 h2 h4
  rw [ha, hb] at e
  simp only [Int.toNat_natCast] at e
  rcases hk with hk | hk | hk
  · rw [hk] at e
    exact .inl ⟨hk, a, b, ha, hb, ha1, hb1, by rw [← e, cuts_rec1]⟩
  · rw [hk] at e
    exact .inr (.inl ⟨hk, a, b, ha, hb, ha1, hb1, by rw [← e, cuts_rec2]⟩)
  · rw [hk] at e
    refine .inr (.inr ⟨hk, a, ha, ?_, ha1, by rw [← e, cuts_rec3]⟩)
    unfold recOk at h1
    rw [hk] at h1
    simp at h1
    exact h1.2
theorem decB_inj {a b : Nat} (h : decB a = decB b) : a = b := by
  have h3 : valG (decB a) 0 0 = valG (decB b) 0 0 := by rw [h]
  rw [valG_decB, valG_decB] at h3
  omega
theorem isRec_one {st sm : Int} {line : ByteArray} {r q : Int × Int × Int} (h : IsRec st sm line r) (h' : IsRec st sm line q) (h2 : sm ≤ 8) (h4 : st ≤ 6) : r = q := by
  obtain ⟨r0, r1, r2⟩ := r
  obtain ⟨q0, q1, q2⟩ := q
  rcases isRec_words h h2 h4 with ⟨rfl, a, b, ha, hb, _, _, e⟩ | ⟨rfl, a, b, ha, hb, _, _, e⟩ | ⟨rfl, a, ha, hb, _, e⟩ <;>
    rcases isRec_words h' h2 h4 with ⟨rfl, c, d, hc, hd, _, _, e2⟩ | ⟨rfl, c, d, hc, hd, _, _, e2⟩ | ⟨rfl, c, hc, hd, _, e2⟩ <;>
    (rw [e] at e2; simp at e2)
  · simp only at ha hb hc hd
    rw [ha, hb, hc, hd, decB_inj e2.1, decB_inj e2.2]
  · exact absurd e2.1 (by decide)
  · exact absurd e2.1 (by decide)
  · simp only at ha hb hc hd
    rw [ha, hb, hc, hd, decB_inj e2.1, decB_inj e2.2]
  · simp only at ha hb hc hd
    rw [ha, hb, hc, hd, decB_inj e2]
/-- the words' reading by the reference: kind, numbers -/
def kindW (x : ByteArray) : Int := if x = upB then 1 else if x = gotB then 2 else if x = outB then 3 else 0
theorem isRec_of {st sm : Int} {line x : ByteArray} {k : Int} {n : List Int} {y : List ByteArray} (hc : cuts line 32 = x :: y) (hk : kindW x = k)
    (hn : (n.length = 2 ∧ (k = 1 ∨ k = 2) ∧ y.length = 2 ∧ (∀ i (h : i < n.length) (h' : i < y.length), 0 ≤ n[i] → y[i] = decB n[i].toNat)) ∨ (n.length = 1 ∧ k = 3 ∧ y.length = 1 ∧ (∀ i (h : i < n.length) (h' : i < y.length), 0 ≤ n[i] → y[i] = decB n[i].toNat)))
    (hr : recOk st sm k (n.getD 0 0) (n.getD 1 0) = true) (h2 : sm ≤ 8) (h4 : st ≤ 6) : IsRec st sm line (k, n.getD 0 0, n.getD 1 0) := by
  refine ⟨hr, ?_⟩
  obtain ⟨hk3, a, b, ha, hb, _, _⟩ := recOk_nat hr h2 h4
  have hx : (k = 1 → x = upB) ∧ (k = 2 → x = gotB) ∧ (k = 3 → x = outB) := by
    unfold kindW at hk
    refine ⟨fun e => ?_, fun e => ?_, fun e => ?_⟩ <;> subst e <;> revert hk <;> (repeat' split) <;> simp_all
  rcases hn with ⟨hl, hkk, hyl, hd⟩ | ⟨hl, hkk, hyl, hd⟩
  · match n, hl, y, hyl with
    | [n0, n1], _, [y0, y1], _ =>
      simp at ha hb ⊢
      have e0 := hd 0 (by simp) (by simp) (by simp; omega)
      have e1 := hd 1 (by simp) (by simp) (by simp; omega)
      simp at e0 e1
      rw [e0, e1] at hc
      have h5 := cuts_back3 hc
      rcases hkk with rfl | rfl
      · rw [recB_one, h5, hx.1 rfl]
      · rw [recB_two, h5, hx.2.1 rfl]
  · match n, hl, y, hyl with
    | [n0], _, [y0], _ =>
      simp at ha ⊢
      have e0 := hd 0 (by simp) (by simp) (by simp; omega)
      simp at e0
      rw [e0] at hc
      have h5 := cuts_back2 hc
      subst hkk
      rw [recB_three, h5, hx.2.2 rfl]

/-- numbers as the program reads them -/
def readsG : List ByteArray → List Int → List Int × Bool
  | [], acc => (acc, true)
  | x :: r, acc => if (readG x).2 = true then readsG r (acc ++ [(readG x).1]) else ([], false)
theorem readsG_spec : ∀ (l : List ByteArray) (acc : List Int), (readsG l acc).2 = true → (readsG l acc).1 = acc ++ l.map (fun x => (readG x).1) ∧ ∀ x ∈ l, x = decIB (readG x).1
  | [], acc, _ => by simp [readsG]
  | x :: r, acc, h => by
    unfold readsG at h ⊢
    by_cases hx : (readG x).2 = true
    · rw [if_pos hx] at h ⊢
      obtain ⟨h1, h2⟩ := readsG_spec r _ h
      refine ⟨by rw [h1]; simp, fun y hy => ?_⟩
      simp at hy
      rcases hy with rfl | hy
      · exact readG_back hx
      · exact h2 y hy
    · rw [if_neg hx] at h; simp at h
theorem numsG_spec : ∀ (l : List ByteArray) (acc : List Int), (numsG l acc).2 = true → (numsG l acc).1 = acc ++ l.map numN ∧ ∀ x ∈ l, 0 ≤ numN x
  | [], acc, _ => by simp [numsG]
  | x :: r, acc, h => by
    unfold numsG at h ⊢
    by_cases hx : numN x < 0
    · rw [if_pos hx] at h; simp at h
    · rw [if_neg hx] at h ⊢
      obtain ⟨h1, h2⟩ := numsG_spec r _ h
      refine ⟨by rw [h1]; simp, fun y hy => ?_⟩
      simp at hy
      rcases hy with rfl | hy
      · omega
      · exact h2 y hy
def recPick (x : ByteArray) (n : List Int) (ok : Bool) : Int × Int × Int :=
  if ok = true then (if x = upB ∧ n.length = 2 then (1, n.getD 0 0, n.getD 1 0) else if x = gotB ∧ n.length = 2 then (2, n.getD 0 0, n.getD 1 0) else if x = outB ∧ n.length = 1 then (3, n.getD 0 0, 0) else (0, 0, 0)) else (0, 0, 0)
/-- the record that the program makes of a line -/
def readRecR (line : ByteArray) : Int × Int × Int :=
  recPick ((cuts line 32).getD 0 ⟨#[]⟩) (readsG ((cuts line 32).drop 1) []).1 (readsG ((cuts line 32).drop 1) []).2
theorem readRecR_of {st sm : Int} {line : ByteArray} {r : Int × Int × Int} (h : IsRec st sm line r) (h2 : sm ≤ 8) (h4 : st ≤ 6) : readRecR line = r := by
  obtain ⟨r0, r1, r2⟩ := r
  rcases isRec_words h h2 h4 with ⟨rfl, a, b, ha, hb, ha1, hb1, e⟩ | ⟨rfl, a, b, ha, hb, ha1, hb1, e⟩ | ⟨rfl, a, ha, hb, ha1, e⟩ <;> simp only at ha hb <;> subst ha hb <;> unfold readRecR <;> rw [e]
  · simp [readsG, readG_decB (show a < 1000000000000000000 by omega), readG_decB (show b < 1000000000000000000 by omega), recPick]
  · have : ¬ gotB = upB := by decide
    simp [readsG, readG_decB (show a < 1000000000000000000 by omega), readG_decB (show b < 1000000000000000000 by omega), recPick, this]
  · have h5 : ¬ outB = upB := by decide
    have h6 : ¬ outB = gotB := by decide
    simp [readsG, readG_decB (show a < 1000000000000000000 by omega), recPick, h5, h6]
theorem cuts_cons (s : ByteArray) (c : UInt8) : cuts s c = (cuts s c).getD 0 ⟨#[]⟩ :: (cuts s c).drop 1 := by
  have := cuts_len s c
  cases h : cuts s c with
  | nil => rw [h] at this; simp at this
  | cons x r => rfl
theorem readRecR_back {st sm : Int} {line : ByteArray} (h2 : sm ≤ 8) (h4 : st ≤ 6) (h : recOk st sm (readRecR line).1 (readRecR line).2.1 (readRecR line).2.2 = true) : IsRec st sm line (readRecR line) := by
  have hz : recOk st sm 0 0 0 = false := by unfold recOk; simp
  have hc := cuts_cons line 32
  unfold readRecR at h ⊢
  generalize (cuts line 32).getD 0 ⟨#[]⟩ = x at hc h ⊢
  generalize hy : (cuts line 32).drop 1 = y at hc h ⊢
  generalize hn : readsG y [] = R at h ⊢
  obtain ⟨n, ok⟩ := R
  unfold recPick at h ⊢
  by_cases hok : ok = true
  · rw [if_pos hok] at h ⊢
    subst hok
    obtain ⟨h5, h6⟩ := readsG_spec y [] (by rw [hn])
    rw [hn] at h5
    simp at h5
    have hyl : y.length = n.length := by rw [h5]; simp
    have hdec : ∀ i (h : i < n.length) (h' : i < y.length), 0 ≤ n[i] → y[i] = decB n[i].toNat := by
      intro i hi hi' h0
      have h7 := h6 _ (List.getElem_mem hi')
      have h8 : n[i] = (readG y[i]).1 := by simp [h5]
      rw [h8] at h0 ⊢
      rw [← decIB_pos h0]; exact h7
    by_cases c1 : x = upB ∧ n.length = 2
    · rw [if_pos c1] at h ⊢
      exact isRec_of hc (k := 1) (by unfold kindW; rw [if_pos c1.1]) (.inl ⟨c1.2, .inl rfl, by omega, hdec⟩) h h2 h4
    · rw [if_neg c1] at h ⊢
      by_cases c2 : x = gotB ∧ n.length = 2
      · rw [if_pos c2] at h ⊢
        exact isRec_of hc (k := 2) (by unfold kindW; rw [if_neg (by rw [c2.1]; decide), if_pos c2.1]) (.inl ⟨c2.2, .inr rfl, by omega, hdec⟩) h h2 h4
      · rw [if_neg c2] at h ⊢
        by_cases c3 : x = outB ∧ n.length = 1
        · rw [if_pos c3] at h ⊢
          have e1 : n.getD 1 0 = 0 := by simp [c3.2]
          have := isRec_of hc (k := 3) (n := n) (st := st) (sm := sm) (by unfold kindW; rw [if_neg (by rw [c3.1]; decide), if_neg (by rw [c3.1]; decide), if_pos c3.1]) (.inr ⟨c3.2, rfl, by omega, hdec⟩) (by rw [e1]; exact h) h2 h4
          rw [e1] at this
          exact this
        · rw [if_neg c3] at h
          rw [hz] at h; simp at h
  · rw [if_neg hok] at h
    rw [hz] at h; simp at h
/-- the reference's reading: kind, numbers, and whether it is a record -/
def parseOk (st sm : Int) (k : Int) (n : List Int) (ok : Bool) : Bool :=
  ok && (decide (1 ≤ n.length) && (decide (n.length ≤ 2) && (decide (n.length = 1) == decide (k = 3) && recOk st sm k (n.getD 0 0) (n.getD 1 0))))
theorem parse_back {st sm : Int} {line : ByteArray} (h2 : sm ≤ 8) (h4 : st ≤ 6)
    (h : parseOk st sm (kindW ((cuts line 32).getD 0 ⟨#[]⟩)) (numsG ((cuts line 32).drop 1) []).1 (numsG ((cuts line 32).drop 1) []).2 = true) :
    IsRec st sm line (kindW ((cuts line 32).getD 0 ⟨#[]⟩), (numsG ((cuts line 32).drop 1) []).1.getD 0 0, (numsG ((cuts line 32).drop 1) []).1.getD 1 0) := by
  have hc := cuts_cons line 32
  generalize (cuts line 32).getD 0 ⟨#[]⟩ = x at hc h ⊢
  generalize hy : (cuts line 32).drop 1 = y at hc h ⊢
  generalize hn : numsG y [] = R at h ⊢
  obtain ⟨n, ok⟩ := R
  unfold parseOk at h
  simp only [Bool.and_eq_true, decide_eq_true_eq] at h
  obtain ⟨hok, l1, l2, hkl, hr⟩ := h
  subst hok
  have l1 : 1 ≤ n.length := l1
  have l2 : n.length ≤ 2 := l2
  obtain ⟨h5, h6⟩ := numsG_spec y [] (by rw [hn])
  rw [hn] at h5
  simp at h5
  have hyl : y.length = n.length := by rw [h5]; simp
  have hdec : ∀ i (h : i < n.length) (h' : i < y.length), 0 ≤ n[i] → y[i] = decB n[i].toNat := by
    intro i hi hi' h0
    have h8 : n[i] = numN y[i] := by simp [h5]
    rw [h8]
    exact numN_back (h6 _ (List.getElem_mem hi'))
  have hk := (recOk_nat hr h2 h4).1
  refine isRec_of hc rfl ?_ hr h2 h4
  by_cases e1 : n.length = 1
  · refine .inr ⟨e1, ?_, by omega, hdec⟩
    simp [e1] at hkl
    exact hkl
  · refine .inl ⟨show n.length = 2 by omega, ?_, by omega, hdec⟩
    simp [e1] at hkl
    omega
theorem parse_of {st sm : Int} {line : ByteArray} {r : Int × Int × Int} (h : IsRec st sm line r) (h2 : sm ≤ 8) (h4 : st ≤ 6) :
    parseOk st sm (kindW ((cuts line 32).getD 0 ⟨#[]⟩)) (numsG ((cuts line 32).drop 1) []).1 (numsG ((cuts line 32).drop 1) []).2 = true := by
  obtain ⟨r0, r1, r2⟩ := r
  have hr := h.1
  rcases isRec_words h h2 h4 with ⟨rfl, a, b, ha, hb, ha1, hb1, e⟩ | ⟨rfl, a, b, ha, hb, ha1, hb1, e⟩ | ⟨rfl, a, ha, hb, ha1, e⟩ <;> simp only at ha hb hr <;> subst ha hb <;> rw [e]
  · have n1 := numN_decB (show a < 1000000000 by omega)
    have n2 := numN_decB (show b < 1000000000 by omega)
    have k1 : kindW upB = 1 := by decide
    have c1 : ¬ (a : Int) < 0 := by omega
    have c2 : ¬ (b : Int) < 0 := by omega
    simp [numsG, n1, n2, c1, c2, parseOk, k1, hr]
  · have n1 := numN_decB (show a < 1000000000 by omega)
    have n2 := numN_decB (show b < 1000000000 by omega)
    have k1 : kindW gotB = 2 := by decide
    have c1 : ¬ (a : Int) < 0 := by omega
    have c2 : ¬ (b : Int) < 0 := by omega
    simp [numsG, n1, n2, c1, c2, parseOk, k1, hr]
  · have n1 := numN_decB (show a < 1000000000 by omega)
    have k1 : kindW outB = 3 := by decide
    have c1 : ¬ (a : Int) < 0 := by omega
    simp [numsG, n1, c1, parseOk, k1, hr]
/-- a line's record, if it is one -/
def recOf (st sm : Int) (line : ByteArray) : Option (Int × Int × Int) :=
  if recOk st sm (readRecR line).1 (readRecR line).2.1 (readRecR line).2.2 = true then some (readRecR line) else none
theorem recOf_parse {st sm : Int} {line : ByteArray} (h2 : sm ≤ 8) (h4 : st ≤ 6) :
    recOf st sm line = if parseOk st sm (kindW ((cuts line 32).getD 0 ⟨#[]⟩)) (numsG ((cuts line 32).drop 1) []).1 (numsG ((cuts line 32).drop 1) []).2 = true then some (kindW ((cuts line 32).getD 0 ⟨#[]⟩), (numsG ((cuts line 32).drop 1) []).1.getD 0 0, (numsG ((cuts line 32).drop 1) []).1.getD 1 0) else none := by
  unfold recOf
  split
  · rename_i h
    have h5 := readRecR_back h2 h4 h
    rw [if_pos (parse_of h5 h2 h4), isRec_one h5 (parse_back h2 h4 (parse_of h5 h2 h4)) h2 h4]
  · rename_i h
    rw [if_neg]
    intro hp
    have h5 := parse_back h2 h4 hp
    have h6 := readRecR_of h5 h2 h4
    apply h
    rw [h6]; exact h5.1
end Go.Proofs.YtofpelmplcoegaaGreat
namespace Go.Proofs.YtofpelmplcoegaaGreat
open Go.RowKit Go.Sort
/-- behind a word -/
def behindG (line word : ByteArray) : List Int × Bool := if (cuts line 32).getD 0 ⟨#[]⟩ = word then readsG ((cuts line 32).drop 1) [] else ([], false)
end Go.Proofs.YtofpelmplcoegaaGreat
namespace Go.Proofs.YtofpelmplcoegaaGreat
open Go.RowKit Go.Sort

theorem wordOf_plain {k : Int} (h : inR k 1 10 = true) : (32 : UInt8) ∉ (wordOf k).data.toList := by
  rcases kind_cases h with rfl | rfl | rfl | rfl | rfl | rfl | rfl | rfl | rfl | rfl <;> simp [wordOf]
theorem wordOf_inj {k j : Int} (h : inR k 1 10 = true) (h2 : inR j 1 10 = true) (e : wordOf k = wordOf j) : k = j := by
  rcases kind_cases h with rfl | rfl | rfl | rfl | rfl | rfl | rfl | rfl | rfl | rfl <;>
    rcases kind_cases h2 with rfl | rfl | rfl | rfl | rfl | rfl | rfl | rfl | rfl | rfl <;> first | rfl | (exfalso; revert e; decide)
theorem dec_plain (n : Nat) : (32 : UInt8) ∉ (decB n).data.toList := by
  intro h
  have h2 := dec_all n 32 (by simpa [decB] using h)
  have : (32 : UInt8).toNat = 32 := rfl
  omega
theorem deedOk_all {k a : Int} (h : deedOk k a = true) : inR k 1 10 = true ∧ 0 ≤ a ∧ a ≤ 999 ∧ (toldOf k = false → a = 0) := by
  have hp := deedOk_parts h
  refine ⟨hp.1, hp.2.1, hp.2.2, fun ht => ?_⟩
  unfold deedOk at h
  rw [ht] at h
  simp at h
  exact h.2.2
theorem cuts_deed {k a : Int} (h : deedOk k a = true) : cuts (deedTextB k a) 32 = if toldOf k = true then [wordOf k, decB a.natAbs] else [wordOf k] := by
  have hp := (deedOk_all h).1
  unfold deedTextB
  rw [if_pos h]
  by_cases ht : toldOf k = true
  · rw [if_pos ht, if_pos ht, ← app_assoc]
    have e : (⟨#[32]⟩ : ByteArray) = mkB [32] := rfl
    rw [e, cuts_app (wordOf_plain hp), cuts_one (dec_plain _)]
  · rw [if_neg ht, if_neg ht, cuts_one (wordOf_plain hp)]
def IsDeed (s : ByteArray) (k a : Int) : Prop := deedOk k a = true ∧ deedTextB k a = s
theorem isDeed_one {s : ByteArray} {k a j b : Int} (h : IsDeed s k a) (h2 : IsDeed s j b) : k = j ∧ a = b := by
  have e1 := cuts_deed h.1
  have e2 := cuts_deed h2.1
  rw [h.2] at e1
  rw [h2.2] at e2
  rw [e1] at e2
  have p1 := deedOk_all h.1
  have p2 := deedOk_all h2.1
  have hw : wordOf k = wordOf j := by
    split at e2 <;> split at e2 <;> simp at e2
    · exact e2.1
    · exact e2
  have hk := wordOf_inj p1.1 p2.1 hw
  subst hk
  refine ⟨rfl, ?_⟩
  by_cases ht : toldOf k = true
  · rw [if_pos ht, if_pos ht] at e2
    simp at e2
    have h3 : valG (decB a.natAbs) 0 0 = valG (decB b.natAbs) 0 0 := by rw [e2]
    rw [valG_decB, valG_decB] at h3
    omega
  · have ht' : toldOf k = false := by simpa using ht
    rw [p1.2.2.2 ht', p2.2.2.2 ht']
/-- the number that the program tries -/
def tryA (L : List ByteArray) : Int := if L.length = 2 then (readG (L.getD 1 ⟨#[]⟩)).1 else 0
theorem isDeed_try {s : ByteArray} {k a : Int} (h : IsDeed s k a) : a = tryA (cuts s 32) := by
  have p := deedOk_all h.1
  have e := cuts_deed h.1
  rw [h.2] at e
  unfold tryA
  rw [e]
  by_cases ht : toldOf k = true
  · rw [if_pos ht]
    simp
    rw [readG_decB (by omega)]
    simp; omega
  · rw [if_neg ht]
    simp
    exact p.2.2.2 (by simpa using ht)
def deedB (s : ByteArray) (k a : Int) : Bool := deedOk k a && decide (deedTextB k a = s)
theorem deedB_iff {s : ByteArray} {k a : Int} : deedB s k a = true ↔ IsDeed s k a := by unfold deedB IsDeed; simp
/-- what both read: kind, number, code -/
def deedR (s : ByteArray) : Int × Int × Int :=
  match (List.range 11).find? (fun (k : Nat) => deedB s (k : Int) (tryA (cuts s 32))) with
  | some k => ((k : Int), tryA (cuts s 32), 0)
  | none => (0, 0, 5)
theorem deedR_yes {s : ByteArray} {k a : Int} (h : IsDeed s k a) : deedR s = (k, a, 0) := by
  have ha := isDeed_try h
  have hk := inR_iff.1 (deedOk_all h.1).1
  unfold deedR
  rw [← ha]
  cases hf : (List.range 11).find? (fun (k : Nat) => deedB s (k : Int) a) with
  | none =>
    rw [List.find?_eq_none] at hf
    have := hf k.toNat (List.mem_range.2 (by omega))
    have e : ((k.toNat : Nat) : Int) = k := by omega
    rw [e, deedB_iff.2 h] at this
    exact absurd rfl this
  | some i =>
    have := deedB_iff.1 (show deedB s (i : Int) a = true from List.find?_some (p := fun (k : Nat) => deedB s (k : Int) a) hf)
    show ((i : Int), a, (0 : Int)) = _
    rw [(isDeed_one this h).1]
theorem deedR_no {s : ByteArray} (h : ∀ k a, ¬ IsDeed s k a) : deedR s = (0, 0, 5) := by
  unfold deedR
  have hf : (List.range 11).find? (fun (k : Nat) => deedB s (k : Int) (tryA (cuts s 32))) = none := by
    rw [List.find?_eq_none]
    intro x _ hx
    exact h _ _ (deedB_iff.1 hx)
  rw [hf]
def tupD (r : Int × Int × Int) : Value := .tuple #[.agg #[.int .i64 r.1, .int .i64 r.2.1], .int .i64 r.2.2]

theorem deedTextB_size (k a : Int) : (deedTextB k a).size ≤ 16 := by
  unfold deedTextB
  split
  · rename_i h
    have hp := deedOk_parts h
    have hw := wordOf_size k
    split
    · have h3 := decB_size_le (k := 2) (n := a.natAbs) (by omega)
      simp only [ByteArray.size_append]
      show _ + 1 + _ ≤ _
      omega
    · omega
  · decide
set_option maxHeartbeats 4000000 in
theorem ImplReadDeed_any (s : ByteArray) (w : World) (hs : s.size ≤ 1048576) :
    Calls Tryz.prog 59 #[.string s] w fun e w' => e = .returned (tupD (deedR s)) ∧ Below w.heap.size w w' := by
  have hcl := cuts_lens s 32
  have hc1 := cuts_len s 32
  have hcs := hcl.2
  have hcl1 := hcl.1
  have HT : ∀ k a, IsDeed s k a → a = tryA (cuts s 32) := fun k a h => isDeed_try h
  generalize hL : cuts s 32 = L at hc1 hcs hcl1 HT
  have HL := Lib.hid hL
  have HTR := Lib.hid HT
  have HSZ := Lib.hid hcs
  have bx : Below w.heap.size w (w.alloc (.cells #[.int .i64 0, .int .i64 0] 59)) := (Below.refl _ _).alloc (Nat.le_refl _) _
  clear hL hcl HT hcs
  go_enter Tryz.func59, Tryz.ntmps59
  go_wp2_with fail
  refine (splitAt_any s 32 _ hs).mono ?_
  rintro e w1 ⟨v1, rfl, o1, b1⟩
  rw [HL.out] at o1
  have hb1 := bx.trans (b1.mono bx.size)
  have q0 := b1.cell (p := ⟨w.heap.size, 0, none⟩) (by simp)
  have q1 := b1.cell (p := ⟨w.heap.size, 1, none⟩) (by simp)
  have qf0 := b1.frozen (p := ⟨w.heap.size, 0, none⟩) (by simp)
  have qf1 := b1.frozen (p := ⟨w.heap.size, 1, none⟩) (by simp)
  simp [go_sem] at q0 q1 qf0 qf1
  have z1 : w.heap.size < w1.heap.size := by have := b1.size; simp at this; omega
  have Q := Lib.hid (show w.heap.size < w1.heap.size ∧ w1.cell? ⟨w.heap.size, 0, none⟩ = some (.int .i64 0) ∧ w1.cell? ⟨w.heap.size, 1, none⟩ = some (.int .i64 0) ∧ w1.frozen? ⟨w.heap.size, 0, none⟩ = false ∧ w1.frozen? ⟨w.heap.size, 1, none⟩ = false from ⟨z1, q0, q1, qf0, qf1⟩)
  have HS := Lib.hid (fun W (h : Below w1.heap.size w1 W) => o1.sl.below h)
  obtain ⟨la, lc, rfl, lm1, lm2, _⟩ := id o1.sl
  unfold maxLen at lm2
  clear q0 q1 qf0 qf1 b1 bx o1
  go_wp2
  go_loopw [5, 6] (fun i _ wr => ∃ k : Nat, 1 ≤ k ∧ k ≤ 11 ∧ i = .int .i64 k ∧ Hid (∀ j : Int, 1 ≤ j → j < k → ∀ a, ¬ IsDeed s j a) ∧ Below w1.heap.size w1 wr) (fun i _ _ => 11 - (intOf i).toNat)
  case atStart => exact ⟨1, Nat.le_refl _, by omega, rfl, (fun j h1 h2 => absurd h2 (by omega)), Below.refl _ _⟩
  case round =>
    obtain ⟨k, hk1, hk, rfl, hno, hbr⟩ := hrel
    have hbw := hb1.trans (hbr.mono hb1.size)
    by_cases hlt : k ≤ 10
    · have hbd : Below w1.heap.size w1 (wr.alloc (.cells #[.int .i64 k, .int .i64 0] 59)) := hbr.alloc hbr.size _
      have hk1i : (1 : Int) ≤ (k : Int) := by omega
      have hk10i : (k : Int) ≤ 10 := by omega
      by_cases h2 : L.length = 2
      · obtain ⟨bb, off, rfl, _, gc⟩ := FS_get (HS.out _ hbd) (i := 1) (by omega)
        have hz := HSZ.out _ (List.getElem_mem (show 1 < L.length by omega))
        have hta : tryA L = (readG (L[1]'(by omega))).1 := by
          unfold tryA
          rw [if_pos h2]
          congr 2
          simp [h2]
        have hrb := readG_bd (L[1]'(by omega))
        generalize (L[1]'(by omega)) = x at gc hz hta hrb
        generalize hrg : readG x = R at hta hrb
        obtain ⟨A, ok⟩ := R
        simp only at hta hrb
        have HA := Lib.hid hta
        have HRG := Lib.hid hrg
        have hl2 : ((L.length : Int) == 2) = true := by simp; omega
        have i2 : (1 : Int) < (L.length : Int) := by omega
        clear hta hrg h2
        go_wp2_with fail
        refine (readDecimal_any x _ (by omega)).mono ?_
        rintro e w3 ⟨rfl, b3⟩
        rw [HRG.out]
        unfold tupNB
        have e0 := b3.cell (p := ⟨wr.heap.size, 0, none⟩) (by simp)
        have e1 := b3.cell (p := ⟨wr.heap.size, 1, none⟩) (by simp)
        have f1 := b3.frozen (p := ⟨wr.heap.size, 1, none⟩) (by simp)
        simp [go_sem] at e0 e1 f1
        have z3 : wr.heap.size < w3.heap.size := by have := b3.size; simp at this; omega
        have bX : Below w1.heap.size w1 (w3.setCell ⟨wr.heap.size, 1, none⟩ (.int .i64 A)) := (hbd.trans (b3.mono hbd.size)).setCell hbr.size _
        have dX : wr.heap.size < (w3.setCell ⟨wr.heap.size, 1, none⟩ (.int .i64 A)).heap.size ∧ (w3.setCell ⟨wr.heap.size, 1, none⟩ (.int .i64 A)).cell? ⟨wr.heap.size, 0, none⟩ = some (.int .i64 k) ∧ (w3.setCell ⟨wr.heap.size, 1, none⟩ (.int .i64 A)).cell? ⟨wr.heap.size, 1, none⟩ = some (.int .i64 A) := by
          refine ⟨by simpa using z3, ?_, ?_⟩ <;> simp [go_sem, e0, e1]
        clear b3
        have hz1 : w1.heap.size ≤ (w3.setCell ⟨wr.heap.size, 1, none⟩ (.int .i64 A)).heap.size := bX.size
        generalize hvd : deedOk k A = V
        have HVD := Lib.hid hvd
        have hfit := deedTextB_size k A
        generalize htx : deedTextB k A = tx at hfit
        have HTX := Lib.hid htx
        clear hvd htx
        cases V
        · go_wp2_with fail
          refine (ImplValidDeed_any k A _).mono ?_
          rintro e w4 ⟨rfl, b4⟩
          rw [HVD.out]
          have hb4 := bX.trans (b4.mono hz1)
          go_wp2
          go_roundw
          case rel => exact ⟨k + 1, by omega, by omega, by go_num, (fun j h1 h2 a h3 => by
            rcases Int.lt_or_eq_of_le (show j ≤ k by omega) with h4 | h4
            · exact hno.out j h1 h4 a h3
            · subst h4
              have h5 := HTR.out _ _ h3
              rw [HA.out] at h5
              subst h5
              have := h3.1
              rw [HVD.out] at this
              simp at this), hb4⟩
          case measure => simp [intOf]; omega
        · have hX0 := dX.1
          have hX1 := dX.2.1
          have hX2 := dX.2.2
          by_cases he : tx = s
          · have ht := beq_yes he
            have HE := Lib.hid he
            clear he
            go_wp2_with fail
            refine (ImplValidDeed_any k A _).mono ?_
            rintro e w4 ⟨rfl, b4⟩
            rw [HVD.out]
            have c0 := b4.cell (p := ⟨wr.heap.size, 0, none⟩) hX0
            have c1 := b4.cell (p := ⟨wr.heap.size, 1, none⟩) hX0
            rw [hX1] at c0
            rw [hX2] at c1
            have hb4 := bX.trans (b4.mono hz1)
            have hz4 := hb4.size
            have z4 := b4.size
            clear b4
            go_wp2_with fail
            refine (ImplDeedText_any k A _).mono ?_
            rintro e w5 ⟨rfl, b5⟩
            rw [HTX.out]
            have d0 := b5.cell (p := ⟨wr.heap.size, 0, none⟩) (by simp; omega)
            have d1 := b5.cell (p := ⟨wr.heap.size, 1, none⟩) (by simp; omega)
            rw [c0] at d0
            rw [c1] at d1
            have hb5 := hb4.trans (b5.mono hz4)
            obtain ⟨_, q0, q1, qf0, qf1⟩ := Q.out
            have r0 := hb5.cell (p := ⟨w.heap.size, 0, none⟩) z1
            have r1 := hb5.cell (p := ⟨w.heap.size, 1, none⟩) z1
            have rf0 := hb5.frozen (p := ⟨w.heap.size, 0, none⟩) z1
            have rf1 := hb5.frozen (p := ⟨w.heap.size, 1, none⟩) z1
            rw [q0] at r0
            rw [q1] at r1
            rw [qf0] at rf0
            rw [qf1] at rf1
            have HRR := Lib.hid (deedR_yes (s := s) (k := k) (a := A) ⟨HVD.out, by rw [HTX.out]; exact HE.out⟩)
            have hbz := hb1.trans (hb5.mono hb1.size)
            clear q0 q1 qf0 qf1 b5 c0 c1 hX1 hX2 dX
            go_wp2
            refine bodyPost_ret (v := tupD (deedR s)) (by rw [HRR.out]; simp [results, Tryz.results59, go_sem, tupD, r0, r1]) rfl ⟨rfl, ?_⟩
            exact (hbz.setCell (Nat.le_refl _) _).setCell (Nat.le_refl _) _
          · have ht := beq_no he
            have HE := Lib.hid he
            clear he
            go_wp2_with fail
            refine (ImplValidDeed_any k A _).mono ?_
            rintro e w4 ⟨rfl, b4⟩
            rw [HVD.out]
            have c0 := b4.cell (p := ⟨wr.heap.size, 0, none⟩) hX0
            have c1 := b4.cell (p := ⟨wr.heap.size, 1, none⟩) hX0
            rw [hX1] at c0
            rw [hX2] at c1
            have hb4 := bX.trans (b4.mono hz1)
            have hz4 := hb4.size
            clear b4
            go_wp2_with fail
            refine (ImplDeedText_any k A _).mono ?_
            rintro e w5 ⟨rfl, b5⟩
            rw [HTX.out]
            have hb5 := hb4.trans (b5.mono hz4)
            go_wp2
            go_roundw
            case rel => exact ⟨k + 1, by omega, by omega, by go_num, (fun j h1 h2 a h3 => by
              rcases Int.lt_or_eq_of_le (show j ≤ k by omega) with h4 | h4
              · exact hno.out j h1 h4 a h3
              · subst h4
                have h5 := HTR.out _ _ h3
                rw [HA.out] at h5
                subst h5
                have := h3.2
                rw [HTX.out] at this
                exact HE.out this), hb5⟩
            case measure => simp [intOf]; omega
      · have hta : tryA L = 0 := by unfold tryA; rw [if_neg h2]
        have HA := Lib.hid hta
        have hl2 : ((L.length : Int) == 2) = false := by simp; omega
        have bX := hbd
        have dX : wr.heap.size < (wr.alloc (.cells #[.int .i64 k, .int .i64 0] 59)).heap.size ∧ (wr.alloc (.cells #[.int .i64 k, .int .i64 0] 59)).cell? ⟨wr.heap.size, 0, none⟩ = some (.int .i64 k) ∧ (wr.alloc (.cells #[.int .i64 k, .int .i64 0] 59)).cell? ⟨wr.heap.size, 1, none⟩ = some (.int .i64 0) := by
          refine ⟨by simp, ?_, ?_⟩ <;> simp [go_sem]
        clear hta h2
        have hz1 : w1.heap.size ≤ (wr.alloc (.cells #[.int .i64 k, .int .i64 0] 59)).heap.size := bX.size
        generalize hvd : deedOk k (0 : Int) = V
        have HVD := Lib.hid hvd
        have hfit := deedTextB_size k (0 : Int)
        generalize htx : deedTextB k (0 : Int) = tx at hfit
        have HTX := Lib.hid htx
        clear hvd htx
        cases V
        · go_wp2_with fail
          refine (ImplValidDeed_any k (0 : Int) _).mono ?_
          rintro e w4 ⟨rfl, b4⟩
          rw [HVD.out]
          have hb4 := bX.trans (b4.mono hz1)
          go_wp2
          go_roundw
          case rel => exact ⟨k + 1, by omega, by omega, by go_num, (fun j h1 h2 a h3 => by
            rcases Int.lt_or_eq_of_le (show j ≤ k by omega) with h4 | h4
            · exact hno.out j h1 h4 a h3
            · subst h4
              have h5 := HTR.out _ _ h3
              rw [HA.out] at h5
              subst h5
              have := h3.1
              rw [HVD.out] at this
              simp at this), hb4⟩
          case measure => simp [intOf]; omega
        · have hX0 := dX.1
          have hX1 := dX.2.1
          have hX2 := dX.2.2
          by_cases he : tx = s
          · have ht := beq_yes he
            have HE := Lib.hid he
            clear he
            go_wp2_with fail
            refine (ImplValidDeed_any k (0 : Int) _).mono ?_
            rintro e w4 ⟨rfl, b4⟩
            rw [HVD.out]
            have c0 := b4.cell (p := ⟨wr.heap.size, 0, none⟩) hX0
            have c1 := b4.cell (p := ⟨wr.heap.size, 1, none⟩) hX0
            rw [hX1] at c0
            rw [hX2] at c1
            have hb4 := bX.trans (b4.mono hz1)
            have hz4 := hb4.size
            have z4 := b4.size
            clear b4
            go_wp2_with fail
            refine (ImplDeedText_any k (0 : Int) _).mono ?_
            rintro e w5 ⟨rfl, b5⟩
            rw [HTX.out]
            have d0 := b5.cell (p := ⟨wr.heap.size, 0, none⟩) (by simp; omega)
            have d1 := b5.cell (p := ⟨wr.heap.size, 1, none⟩) (by simp; omega)
            rw [c0] at d0
            rw [c1] at d1
            have hb5 := hb4.trans (b5.mono hz4)
            obtain ⟨_, q0, q1, qf0, qf1⟩ := Q.out
            have r0 := hb5.cell (p := ⟨w.heap.size, 0, none⟩) z1
            have r1 := hb5.cell (p := ⟨w.heap.size, 1, none⟩) z1
            have rf0 := hb5.frozen (p := ⟨w.heap.size, 0, none⟩) z1
            have rf1 := hb5.frozen (p := ⟨w.heap.size, 1, none⟩) z1
            rw [q0] at r0
            rw [q1] at r1
            rw [qf0] at rf0
            rw [qf1] at rf1
            have HRR := Lib.hid (deedR_yes (s := s) (k := k) (a := (0 : Int)) ⟨HVD.out, by rw [HTX.out]; exact HE.out⟩)
            have hbz := hb1.trans (hb5.mono hb1.size)
            clear q0 q1 qf0 qf1 b5 c0 c1 hX1 hX2 dX
            go_wp2
            refine bodyPost_ret (v := tupD (deedR s)) (by rw [HRR.out]; simp [results, Tryz.results59, go_sem, tupD, r0, r1]) rfl ⟨rfl, ?_⟩
            exact (hbz.setCell (Nat.le_refl _) _).setCell (Nat.le_refl _) _
          · have ht := beq_no he
            have HE := Lib.hid he
            clear he
            go_wp2_with fail
            refine (ImplValidDeed_any k (0 : Int) _).mono ?_
            rintro e w4 ⟨rfl, b4⟩
            rw [HVD.out]
            have c0 := b4.cell (p := ⟨wr.heap.size, 0, none⟩) hX0
            have c1 := b4.cell (p := ⟨wr.heap.size, 1, none⟩) hX0
            rw [hX1] at c0
            rw [hX2] at c1
            have hb4 := bX.trans (b4.mono hz1)
            have hz4 := hb4.size
            clear b4
            go_wp2_with fail
            refine (ImplDeedText_any k (0 : Int) _).mono ?_
            rintro e w5 ⟨rfl, b5⟩
            rw [HTX.out]
            have hb5 := hb4.trans (b5.mono hz4)
            go_wp2
            go_roundw
            case rel => exact ⟨k + 1, by omega, by omega, by go_num, (fun j h1 h2 a h3 => by
              rcases Int.lt_or_eq_of_le (show j ≤ k by omega) with h4 | h4
              · exact hno.out j h1 h4 a h3
              · subst h4
                have h5 := HTR.out _ _ h3
                rw [HA.out] at h5
                subst h5
                have := h3.2
                rw [HTX.out] at this
                exact HE.out this), hb5⟩
            case measure => simp [intOf]; omega
    · obtain rfl : k = 11 := by omega
      have hr : deedR s = (0, 0, 5) := deedR_no (fun k a h => by
        have h1 := inR_iff.1 (deedOk_all h.1).1
        exact hno.out k h1.1 (by omega) a h)
      have HR := Lib.hid hr
      clear hr
      obtain ⟨_, q0, q1, qf0, qf1⟩ := Q.out
      have r0 := hbr.cell (p := ⟨w.heap.size, 0, none⟩) z1
      have r1 := hbr.cell (p := ⟨w.heap.size, 1, none⟩) z1
      have rf0 := hbr.frozen (p := ⟨w.heap.size, 0, none⟩) z1
      have rf1 := hbr.frozen (p := ⟨w.heap.size, 1, none⟩) z1
      rw [q0] at r0
      rw [q1] at r1
      rw [qf0] at rf0
      rw [qf1] at rf1
      clear q0 q1 qf0 qf1
      go_wp2
      refine bodyPost_ret (v := tupD (deedR s)) (by rw [HR.out]; simp [results, Tryz.results59, go_sem, tupD, r0, r1]) rfl ⟨rfl, ?_⟩
      exact (hbw.setCell (Nat.le_refl _) _).setCell (Nat.le_refl _) _

def kindG (x : ByteArray) : Nat → Int
  | 0 => 0
  | k + 1 => if wordOf ((k : Int) + 1) = x then (k : Int) + 1 else kindG x k
theorem kindG_spec (x : ByteArray) : ∀ k, (kindG x k = 0 ∧ ∀ j : Int, 1 ≤ j → j ≤ k → ¬ wordOf j = x) ∨ (1 ≤ kindG x k ∧ kindG x k ≤ k ∧ wordOf (kindG x k) = x)
  | 0 => .inl ⟨rfl, fun j h1 h2 => absurd h2 (by omega)⟩
  | k + 1 => by
    unfold kindG
    by_cases h : wordOf ((k : Int) + 1) = x
    · rw [if_pos h]; exact .inr ⟨by omega, by omega, h⟩
    · rw [if_neg h]
      rcases kindG_spec x k with ⟨h1, h2⟩ | ⟨h1, h2, h3⟩
      · refine .inl ⟨h1, fun j hj1 hj2 => ?_⟩
        by_cases e : j = (k : Int) + 1
        · rw [e]; exact h
        · exact h2 j hj1 (by omega)
      · exact .inr ⟨h1, by omega, h3⟩
theorem isDeed_words {s : ByteArray} {k a : Int} (h : IsDeed s k a) : (toldOf k = true ∧ cuts s 32 = [wordOf k, decB a.natAbs] ∧ 0 ≤ a ∧ a ≤ 999) ∨ (toldOf k = false ∧ cuts s 32 = [wordOf k] ∧ a = 0) := by
  have p := deedOk_all h.1
  have e := cuts_deed h.1
  rw [h.2] at e
  by_cases ht : toldOf k = true
  · rw [if_pos ht] at e; exact .inl ⟨ht, e, p.2.1, p.2.2.1⟩
  · rw [if_neg ht] at e; exact .inr ⟨by simpa using ht, e, p.2.2.2 (by simpa using ht)⟩
/-- no word of the ten: no deed -/
theorem deedR_kind0 {s : ByteArray} {L : List ByteArray} (hL : cuts s 32 = L) (h1 : 1 ≤ L.length) (h : ∀ j : Int, 1 ≤ j → j ≤ 10 → ¬ wordOf j = L.getD 0 ⟨#[]⟩) : deedR s = (0, 0, 5) := by
  refine deedR_no fun k a hd => ?_
  have hk := inR_iff.1 (deedOk_all hd.1).1
  rcases isDeed_words hd with ⟨_, e, _⟩ | ⟨_, e, _⟩ <;> (rw [hL] at e; subst e; exact h k hk.1 hk.2 rfl)
/-- the kind is told by the word -/
theorem kind_of {s : ByteArray} {L : List ByteArray} {K k a : Int} (hL : cuts s 32 = L) (hK : 1 ≤ K ∧ K ≤ 10) (hw : wordOf K = L.getD 0 ⟨#[]⟩) (h : IsDeed s k a) : k = K := by
  have hk := (deedOk_all h.1).1
  have hK2 : inR K 1 10 = true := inR_iff.2 hK
  rcases isDeed_words h with ⟨_, e, _⟩ | ⟨_, e, _⟩ <;> (rw [hL] at e; subst e; exact wordOf_inj hk hK2 hw.symm)
theorem deedR_len {s : ByteArray} {L : List ByteArray} {K : Int} (hL : cuts s 32 = L) (hK : 1 ≤ K ∧ K ≤ 10) (hw : wordOf K = L.getD 0 ⟨#[]⟩) (h : (toldOf K = true ∧ ¬ L.length = 2) ∨ (toldOf K = false ∧ ¬ L.length = 1)) : deedR s = (0, 0, 5) := by
  refine deedR_no fun k a hd => ?_
  have e := kind_of hL hK hw hd
  subst e
  rcases isDeed_words hd with ⟨t, e, _⟩ | ⟨t, e, _⟩ <;> (rw [hL] at e; subst e; rcases h with ⟨t2, h⟩ | ⟨t2, h⟩)
  · exact h rfl
  · rw [t] at t2; simp at t2
  · rw [t] at t2; simp at t2
  · exact h rfl
theorem deedR_bad {s y : ByteArray} {L : List ByteArray} {K : Int} (hL : cuts s 32 = L) (hK : 1 ≤ K ∧ K ≤ 10) (hw : wordOf K = L.getD 0 ⟨#[]⟩) (ht : toldOf K = true) (hl : L = [L.getD 0 ⟨#[]⟩, y]) (hy : numN y < 0) : deedR s = (0, 0, 5) := by
  refine deedR_no fun k a hd => ?_
  have e := kind_of hL hK hw hd
  subst e
  rcases isDeed_words hd with ⟨t, e, h1, h2⟩ | ⟨t, e, _⟩
  · rw [hL, hl] at e
    simp at e
    rw [e.2, numN_decB (by omega)] at hy
    omega
  · rw [ht] at t; simp at t
theorem deedR_told {s y : ByteArray} {L : List ByteArray} {K : Int} (hL : cuts s 32 = L) (hK : 1 ≤ K ∧ K ≤ 10) (hw : wordOf K = L.getD 0 ⟨#[]⟩) (ht : toldOf K = true) (hl : L = [L.getD 0 ⟨#[]⟩, y]) (hy : 0 ≤ numN y) : deedR s = if deedOk K (numN y) = true then (K, numN y, 0) else (0, 0, 5) := by
  by_cases hd : deedOk K (numN y) = true
  · rw [if_pos hd]
    refine deedR_yes ⟨hd, ?_⟩
    unfold deedTextB
    rw [if_pos hd, if_pos ht]
    have h2 : cuts s 32 = [wordOf K, y] := by rw [hL, hw]; exact hl
    have h3 := cuts_back2 h2
    have h4 := numN_back hy
    have h5 : (numN y).natAbs = (numN y).toNat := by omega
    rw [h5, ← h4, h3, ← app_assoc]; rfl
  · rw [if_neg hd]
    refine deedR_no fun k a hdd => ?_
    have e := kind_of hL hK hw hdd
    subst e
    rcases isDeed_words hdd with ⟨t, e, h1, h2⟩ | ⟨t, e, _⟩
    · rw [hL, hl] at e
      simp at e
      rw [e.2, numN_decB (by omega)] at hd
      have : ((a.natAbs : Nat) : Int) = a := by omega
      rw [this] at hd
      exact hd hdd.1
    · rw [ht] at t; simp at t
theorem deedR_bare {s : ByteArray} {L : List ByteArray} {K : Int} (hL : cuts s 32 = L) (hK : 1 ≤ K ∧ K ≤ 10) (hw : wordOf K = L.getD 0 ⟨#[]⟩) (ht : toldOf K = false) (hl : L = [L.getD 0 ⟨#[]⟩]) : deedR s = (K, 0, 0) ∧ deedOk K 0 = true := by
  have hd : deedOk K 0 = true := by unfold deedOk; rw [inR_iff.2 hK]; simp [inR]
  refine ⟨deedR_yes ⟨hd, ?_⟩, hd⟩
  unfold deedTextB
  rw [if_pos hd, if_neg (by rw [ht]; decide)]
  have h2 : cuts s 32 = [wordOf K] := by rw [hL, hw]; exact hl
  exact (cuts_back1 h2).symm
end Go.Proofs.YtofpelmplcoegaaGreat
