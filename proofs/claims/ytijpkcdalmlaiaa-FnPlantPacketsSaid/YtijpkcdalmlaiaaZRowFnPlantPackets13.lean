/-
  Records read from lines: the walks. With it: The text of a journal, both sides. Records read from lines: the plain law, and both sides.
-/
import Derived.Test.YtijpkcdalmlaiaaZRowFnPlantPackets12
import Derived.Deep.DeepCutAuto
set_option linter.unusedVariables false
set_option linter.unusedSimpArgs false
namespace Go.Proofs.Ytijpkcdalmlaiaa
open Go.RowKit Go.Sort
def ixR (p : Int × Int × Int → Bool) : List (Int × Int × Int) → Nat → Int
  | [], _ => -1
  | x :: r, k => if p x = true then (k : Int) else ixR p r (k + 1)
theorem ixR_any (p : Int × Int × Int → Bool) : ∀ (l : List (Int × Int × Int)) (k : Nat), decide (0 ≤ ixR p l k) = l.any p
  | [], k => by simp [ixR]
  | x :: r, k => by
    unfold ixR
    by_cases h : p x = true
    · rw [if_pos h]; simp [h]
    · rw [if_neg h, ixR_any p r (k + 1)]; simp [h]
theorem ixR_step {p : Int × Int × Int → Bool} {l : List (Int × Int × Int)} {k : Nat} (h : k < l.length) : ixR p (l.drop k) k = if p l[k] = true then (k : Int) else ixR p (l.drop (k + 1)) (k + 1) := by
  rw [List.drop_eq_getElem_cons h]; rfl
theorem ixR_bd (p : Int × Int × Int → Bool) : ∀ (l : List (Int × Int × Int)) (k : Nat), -1 ≤ ixR p l k ∧ ixR p l k < k + l.length
  | [], k => by simp [ixR]; omega
  | x :: r, k => by
    unfold ixR
    have := ixR_bd p r (k + 1)
    split
    · simp; omega
    · simp at this ⊢; omega
def recsOk (s sm : Int) (xs : List (Int × Int × Int)) : Bool := !(xs.any fun x => !recOk s sm x.1 x.2.1 x.2.2)
def validRecsB (s t : Int) (xss : List (List Int)) (bs sm wk : Int) (xs : List (Int × Int × Int)) : Bool := serviceOk s t xss bs sm wk && recsOk s sm xs
theorem service_bds {s t : Int} {xss : List (List Int)} {bs sm wk : Int} (h : serviceOk s t xss bs sm wk = true) : 1 ≤ s ∧ s ≤ 6 ∧ 1 ≤ sm ∧ sm ≤ 8 ∧ 1 ≤ wk ∧ wk ≤ 4 ∧ 0 ≤ bs ∧ bs ≤ 999999992 := by
  unfold serviceOk at h
  rw [Bool.and_eq_true, Bool.and_eq_true, Bool.and_eq_true] at h
  have h1 := (chainOk_parts h.1).1
  have h2 := inR_iff.1 h.2.1
  have h3 := inR_iff.1 h.2.2.1
  have h4 := inR_iff.1 h.2.2.2
  omega
/-- a right record is one of three kinds, with small numbers -/
theorem recOk_nat {s sm k x v : Int} (h : recOk s sm k x v = true) (h2 : sm ≤ 8) (h4 : s ≤ 6) : (k = 1 ∨ k = 2 ∨ k = 3) ∧ ∃ a b : Nat, x = (a : Int) ∧ v = (b : Int) ∧ a < 1000 ∧ b < 1000 := by
  unfold recOk at h
  rw [Bool.and_eq_true] at h
  obtain ⟨ha, hb⟩ := h
  have hx := inR_iff.1 ha
  obtain ⟨a, rfl⟩ := Int.eq_ofNat_of_zero_le hx.1
  have hv : (k = 1 ∨ k = 2 ∨ k = 3) ∧ 0 ≤ v ∧ v ≤ 7 := by
    split at hb
    · rename_i hk; have := inR_iff.1 hb; omega
    · split at hb
      · rename_i hk; have := inR_iff.1 hb; omega
      · split at hb
        · rename_i hk; have := of_decide_eq_true hb; omega
        · simp at hb
  obtain ⟨b, rfl⟩ := Int.eq_ofNat_of_zero_le hv.2.1
  exact ⟨hv.1, a, b, rfl, rfl, by omega, by omega⟩
/-- lines behind a text -/
def linesR (acc : ByteArray) : List (Int × Int × Int) → ByteArray
  | [] => acc
  | x :: r => linesR (acc ++ (recB x.1 x.2.1.toNat x.2.2.toNat ++ ⟨#[10]⟩)) r
theorem linesR_step {acc : ByteArray} {l : List (Int × Int × Int)} {k : Nat} (h : k < l.length) : linesR acc (l.drop k) = linesR (acc ++ (recB l[k].1 l[k].2.1.toNat l[k].2.2.toNat ++ ⟨#[10]⟩)) (l.drop (k + 1)) := by
  rw [List.drop_eq_getElem_cons h]; rfl
def jTextB (s t : Int) (xss : List (List Int)) (bs sm wk : Int) (xs : List (Int × Int × Int)) : ByteArray := if validRecsB s t xss bs sm wk xs = true then linesR ⟨#[]⟩ xs else ⟨#[]⟩
theorem recsOk_at {s sm : Int} {xs : List (Int × Int × Int)} (h : recsOk s sm xs = true) {k : Nat} (hk : k < xs.length) : recOk s sm xs[k].1 xs[k].2.1 xs[k].2.2 = true := by
  unfold recsOk at h
  simp at h
  exact h _ _ _ (List.getElem_mem hk)
set_option maxHeartbeats 2000000 in
theorem l09Line_any (k : Int) (s v : Nat) (w : World) (hk : k = 1 ∨ k = 2 ∨ k = 3) (hs : s < 1000) (hv : v < 1000) :
    Calls Try.prog 121 #[.agg #[.int .i64 k, .int .i64 s, .int .i64 v]] w fun e w' => e = .returned (.string (recB k s v ++ ⟨#[10]⟩)) ∧ Below w.heap.size w w' := by
  have h1 := decB_size_le (k := 2) (n := s) hs
  have h2 := decB_size_le (k := 2) (n := v) hv
  have D1 := Lib.hid (fun u => Decimal_any 2 s u hs (by omega))
  have D2 := Lib.hid (fun u => Decimal_any 2 v u hv (by omega))
  generalize hds : decB s = ds at h1 D1
  generalize hdv : decB v = dv at h2 D2
  have HDS := Lib.hid hds
  have HDV := Lib.hid hdv
  clear hds hdv hs hv
  have W : ∀ (kk : Nat) (word : ByteArray), (kk = 1 ∨ kk = 2 ∨ kk = 3) → word.size ≤ 4 → (#[(⟨#[]⟩ : ByteArray), ⟨#[117, 112, 32]⟩, ⟨#[103, 111, 116, 32]⟩, ⟨#[111, 117, 116, 32]⟩] : Array ByteArray)[kk]? = some word →
      (∀ t, recB (kk : Int) s v = t → t = if kk = 3 then word ++ ds else word ++ ds ++ (⟨#[32]⟩ ++ dv)) →
      Calls Try.prog 121 #[.agg #[.int .i64 kk, .int .i64 s, .int .i64 v]] w fun e w' => e = .returned (.string (recB kk s v ++ ⟨#[10]⟩)) ∧ Below w.heap.size w w' := by
    intro kk word hkk hw hword hrec
    have HREC := Lib.hid hrec
    have bx : Below w.heap.size w ((w.alloc (.cells #[.int .i64 kk, .int .i64 s, .int .i64 v] 121)).alloc (.cells #[.string ⟨#[]⟩, .string ⟨#[117, 112, 32]⟩, .string ⟨#[103, 111, 116, 32]⟩, .string ⟨#[111, 117, 116, 32]⟩] 9)) := ((Below.refl _ _).alloc (Nat.le_refl _) _).alloc (by simp) _
    have g0 : ((w.alloc (.cells #[.int .i64 kk, .int .i64 s, .int .i64 v] 121)).alloc (.cells #[.string ⟨#[]⟩, .string ⟨#[117, 112, 32]⟩, .string ⟨#[103, 111, 116, 32]⟩, .string ⟨#[111, 117, 116, 32]⟩] 9)).cell? ⟨w.heap.size, 0, none⟩ = some (.int .i64 kk) := by simp [go_sem]
    have g1 : ((w.alloc (.cells #[.int .i64 kk, .int .i64 s, .int .i64 v] 121)).alloc (.cells #[.string ⟨#[]⟩, .string ⟨#[117, 112, 32]⟩, .string ⟨#[103, 111, 116, 32]⟩, .string ⟨#[111, 117, 116, 32]⟩] 9)).cell? ⟨w.heap.size, 1, none⟩ = some (.int .i64 s) := by simp [go_sem]
    have g2 : ((w.alloc (.cells #[.int .i64 kk, .int .i64 s, .int .i64 v] 121)).alloc (.cells #[.string ⟨#[]⟩, .string ⟨#[117, 112, 32]⟩, .string ⟨#[103, 111, 116, 32]⟩, .string ⟨#[111, 117, 116, 32]⟩] 9)).cell? ⟨w.heap.size, 2, none⟩ = some (.int .i64 v) := by simp [go_sem]
    have gw : ((w.alloc (.cells #[.int .i64 kk, .int .i64 s, .int .i64 v] 121)).alloc (.cells #[.string ⟨#[]⟩, .string ⟨#[117, 112, 32]⟩, .string ⟨#[103, 111, 116, 32]⟩, .string ⟨#[111, 117, 116, 32]⟩] 9)).cell? ⟨w.heap.size + 1, kk, none⟩ = some (.string word) := by
      rcases hkk with rfl | rfl | rfl <;> (simp at hword; subst hword; simp [go_sem])
    have hk0 : (0 : Int) ≤ (kk : Int) := by omega
    have hk4 : (kk : Int) < 4 := by omega
    have z1 : ¬ 9223372036854775807 < word.size + ds.size := by omega
    have z2 : ¬ 9223372036854775807 < 1 + dv.size := by omega
    have z3 : ¬ 9223372036854775807 < word.size + ds.size + (1 + dv.size) := by omega
    have z4 : ¬ 9223372036854775807 < word.size + ds.size + (1 + dv.size) + 1 := by omega
    have z5 : ¬ 9223372036854775807 < word.size + ds.size + 1 := by omega
    have key : ((kk : Int) != 3) = !decide (kk = 3) := by rcases hkk with rfl | rfl | rfl <;> rfl
    clear hword hrec
    generalize hb3 : decide (kk = 3) = b3 at key
    have HB3 := Lib.hid hb3
    clear hb3 hkk
    cases b3
    · go_enter Try.func121, Try.ntmps121
      go_upto_region 2 with (fail)
      generalize hW : (w.alloc (.cells #[.int .i64 kk, .int .i64 s, .int .i64 v] 121)).alloc (.cells #[.string ⟨#[]⟩, .string ⟨#[117, 112, 32]⟩, .string ⟨#[103, 111, 116, 32]⟩, .string ⟨#[111, 117, 116, 32]⟩] 9) = W at *
      clear hW
      have k0 := fun d os => cell_regrown g0 d os
      have k1 := fun d os => cell_regrown g1 d os
      have kw := fun d os => cell_regrown gw d os
      refine wp_region_quiet_below (by kernel_rfl) (by kernel_rfl) ?_
      repeat (first | go_big_quiet_skip | quiet_step (exact Calls.regrown_of (D1.out _)))
      refine wpQuiet_nil ?_
      intro _ hw'
      obtain ⟨⟨dq, osq⟩, hw''⟩ := hw'
      subst hw''
      have bq := bx.trans ((below_regrown W dq osq).mono bx.size)
      have q0 := k0 dq osq
      have q2 := fun d os => k0 d os
      have r0 := cell_regrown g0 dq osq
      have r2 := cell_regrown g2 dq osq
      generalize grow (redrawn W dq) osq = wq at bq r0 r2 ⊢
      clear k0 k1 kw g0 g1 g2 gw q0 q2
      go_wp2_with (go_at_call 97; refine (D2.out _).mono ?_; rintro e w3 ⟨rfl, b3⟩)
      go_ret
      exact ⟨rs (by rw [HREC.out _ rfl, if_neg (of_decide_eq_false HB3.out)]), bq.trans (b3.mono bq.size)⟩
    · go_enter Try.func121, Try.ntmps121
      go_upto_region 2 with (fail)
      generalize hW : (w.alloc (.cells #[.int .i64 kk, .int .i64 s, .int .i64 v] 121)).alloc (.cells #[.string ⟨#[]⟩, .string ⟨#[117, 112, 32]⟩, .string ⟨#[103, 111, 116, 32]⟩, .string ⟨#[111, 117, 116, 32]⟩] 9) = W at *
      clear hW
      have k0 := fun d os => cell_regrown g0 d os
      have k1 := fun d os => cell_regrown g1 d os
      have kw := fun d os => cell_regrown gw d os
      refine wp_region_quiet_below (by kernel_rfl) (by kernel_rfl) ?_
      repeat (first | go_big_quiet_skip | quiet_step (exact Calls.regrown_of (D1.out _)))
      refine wpQuiet_nil ?_
      intro _ hw'
      obtain ⟨⟨dq, osq⟩, hw''⟩ := hw'
      subst hw''
      have bq := bx.trans ((below_regrown W dq osq).mono bx.size)
      have r0 := cell_regrown g0 dq osq
      generalize grow (redrawn W dq) osq = wq at bq r0 ⊢
      clear k0 k1 kw g0 g1 g2 gw
      go_wp2
      go_ret
      exact ⟨rs (by rw [HREC.out _ rfl, if_pos (of_decide_eq_true HB3.out)]), bq⟩
  rcases hk with rfl | rfl | rfl
  · exact W 1 ⟨#[117, 112, 32]⟩ (by simp) (by decide) rfl (fun t ht => by subst ht; rw [if_neg (by decide)]; unfold recB; rw [if_pos (by decide), HDS.out, HDV.out, app_assoc, app_assoc, app_assoc])
  · exact W 2 ⟨#[103, 111, 116, 32]⟩ (by simp) (by decide) rfl (fun t ht => by subst ht; rw [if_neg (by decide)]; unfold recB; rw [if_neg (by decide), if_pos (by decide), HDS.out, HDV.out, app_assoc, app_assoc, app_assoc])
  · exact W 3 ⟨#[111, 117, 116, 32]⟩ (by simp) (by decide) rfl (fun t ht => by subst ht; rw [if_pos rfl]; unfold recB; rw [if_neg (by decide), if_neg (by decide), HDS.out])

theorem any_atR {p : Int × Int × Int → Bool} {l : List (Int × Int × Int)} {k : Nat} (hk : k < l.length) (he : p l[k] = true) : l.any p = true := by
  rw [List.any_eq_true]; exact ⟨_, List.getElem_mem hk, he⟩
theorem any_takeR {p : Int × Int × Int → Bool} {l : List (Int × Int × Int)} {k : Nat} (h : (l.take k).any p = false) (hk : k < l.length) (he : p l[k] = false) : (l.take (k + 1)).any p = false := by
  rw [List.take_succ_eq_append_getElem hk, List.any_append, h]; simp [he]
set_option maxHeartbeats 2000000 in
theorem SpecJournalText_any {v rv : Value} {xss : List (List Int)} {xs : List (Int × Int × Int)} (s t bs sm wk : Int) (w : World) (ha : SlII w v xss) (hr : FRecord.Sl w rv xs) (hl : xs.length ≤ 1048576) :
    Calls Try.prog 122 #[.agg #[.int .i64 s, .int .i64 t, v, .int .i64 bs, .int .i64 sm, .int .i64 wk], rv] w fun e w' => e = .returned (.string (jTextB s t xss bs sm wk xs)) ∧ Below w.heap.size w w' := by
  have HA := Lib.hid (fun W (h : Below w.heap.size w W) => ha.below h)
  have HR := Lib.hid (fun W (h : Below w.heap.size w W) => hr.below h)
  obtain ⟨a, ca, us, rfl, _, _, _, _, _⟩ := ha
  obtain ⟨ra, rc, rfl, _⟩ := hr
  have bx : Below w.heap.size w (w.alloc (svObj s t (.slice a xss.length ca) bs sm wk)) := (Below.refl _ _).alloc (Nat.le_refl _) _
  have X := Lib.hid (svBox w s t (.slice a xss.length ca) bs sm wk)
  generalize hv : serviceOk s t xss bs sm wk = V
  have HV := Lib.hid hv
  cases V
  · clear hv
    go_enter Try.func122, Try.ntmps122
    go_wp2_with fail
    refine (l09Ok_any w.heap.size 0 s t bs sm wk _ X.out (HA.out _ bx)).mono ?_
    rintro e w1 ⟨rfl, b1⟩
    rw [HV.out]
    go_wp2
    go_ret
    exact ⟨rs (by unfold jTextB validRecsB; rw [HV.out]; rfl), bx.trans (b1.mono bx.size)⟩
  · obtain ⟨h1, h2, h3, h4, _⟩ := service_bds hv
    clear hv
    go_enter Try.func122, Try.ntmps122
    go_wp2_with fail
    refine (l09Ok_any w.heap.size 0 s t bs sm wk _ X.out (HA.out _ bx)).mono ?_
    rintro e w1 ⟨rfl, b1⟩
    rw [HV.out]
    have hb1 := bx.trans (b1.mono bx.size)
    have X1 := Lib.hid (X.out.below b1)
    clear b1
    go_wp2
    go_loopw [5, 6] (fun o i wr => ∃ (k : Nat) (acc : ByteArray), k ≤ xs.length ∧ i = .int .i64 k ∧ o = .string acc ∧ acc.size ≤ 32 * k ∧ Hid (linesR ⟨#[]⟩ xs = linesR acc (xs.drop k)) ∧ Hid ((xs.take k).any (fun x => !recOk s sm x.1 x.2.1 x.2.2) = false) ∧ Below w1.heap.size w1 wr) (fun _ i _ => xs.length - (intOf i).toNat)
    case atStart => exact ⟨0, ⟨#[]⟩, Nat.zero_le _, rfl, rfl, Nat.le_refl _, rfl, rfl, Below.refl _ _⟩
    case round =>
      obtain ⟨k, acc, hk, rfl, rfl, hsz, hln, hno, hbr⟩ := hrel
      have hbw := hb1.trans (hbr.mono hb1.size)
      by_cases hlt : k < xs.length
      · obtain ⟨b, off, rfl, hblk, c0, c1, c2⟩ := FRecord_at (HR.out _ hbw) hlt
        have i1 : (k : Int) < (xs.length : Int) := by omega
        generalize hp : recOk s sm xs[k].1 xs[k].2.1 xs[k].2.2 = P
        have HP := Lib.hid hp
        cases P
        · clear hp
          go_wp2_with fail
          refine (l09Record_any w.heap.size 0 s t bs sm wk xs[k].1 xs[k].2.1 xs[k].2.2 _ (X1.out.below hbr) h3 h4 h1 h2).mono ?_
          rintro e w3 ⟨rfl, b3⟩
          rw [HP.out]
          go_wp2
          go_ret
          exact ⟨rs (by
            unfold jTextB validRecsB recsOk
            rw [HV.out, any_atR (k := k) hlt (by rw [HP.out]; rfl)]; rfl), hbw.trans (b3.mono hbw.size)⟩
        · obtain ⟨hkk, x, y, hx, hy, hx1, hy1⟩ := recOk_nat hp h4 h2
          have hst := linesR_step (acc := acc) hlt
          have HNO := Lib.hid (any_takeR hno.out hlt (by rw [hp]; rfl))
          rw [hx, hy] at hst
          simp only [Int.toNat_natCast] at hst
          rw [hx] at c1
          rw [hy] at c2
          have hp2 := hp
          rw [hx, hy] at hp2
          generalize xs[k].1 = kd at hst hkk c0 hp2
          have hrz := recB_size (k := kd) hx1 hy1
          have HST := Lib.hid hst
          have HKK := Lib.hid hkk
          have HP2 := Lib.hid hp2
          have z2 : ¬ 9223372036854775807 < acc.size + ((recB kd x y).size + 1) := by omega
          clear hst hkk hx hy hp hp2
          go_wp2_with fail
          refine (l09Record_any w.heap.size 0 s t bs sm wk kd x y _ (X1.out.below hbr) h3 h4 h1 h2).mono ?_
          rintro e w3 ⟨rfl, b3⟩
          rw [HP2.out]
          have c0' := b3.cell (p := ⟨b, off + k * 3, none⟩) hblk
          have c1' := b3.cell (p := ⟨b, off + k * 3 + 1, none⟩) hblk
          have c2' := b3.cell (p := ⟨b, off + k * 3 + 2, none⟩) hblk
          rw [c0] at c0'
          rw [c1] at c1'
          rw [c2] at c2'
          have hb3 := hbr.trans (b3.mono hbr.size)
          clear c0 c1 c2 b3
          go_wp2_with (go_at_call 121; refine (l09Line_any kd x y _ HKK.out hx1 hy1).mono ?_; rintro e w4 ⟨rfl, b4⟩)
          go_roundw
          case rel => exact ⟨k + 1, _, by omega, by go_num, rfl, by rw [ByteArray.size_append, ByteArray.size_append]; show _ + (_ + 1) ≤ _; omega, by unfold Hid at *; rw [hln, HST], HNO.out, hb3.trans (b4.mono hb3.size)⟩
          case measure => simp [intOf]; omega
      · obtain rfl : k = xs.length := by omega
        go_wp2
        go_ret
        exact ⟨rs (by
          have h5 := hno.out
          rw [List.take_length] at h5
          unfold jTextB validRecsB recsOk
          rw [HV.out, h5, hln.out]; simp [linesR]), hbw⟩
end Go.Proofs.Ytijpkcdalmlaiaa
namespace Go.Proofs.Ytijpkcdalmlaiaa
open Go.RowKit Go.Sort

theorem dec_sp (n : Nat) : (32 : UInt8) ∉ (decB n).data.toList := by
  intro h
  have h2 := dec_all n 32 (by simpa [decB] using h)
  have : (32 : UInt8).toNat = 32 := rfl
  omega
def IsRec (st sm : Int) (line : ByteArray) (r : Int × Int × Int) : Prop := recOk st sm r.1 r.2.1 r.2.2 = true ∧ recB r.1 r.2.1.toNat r.2.2.toNat = line
def upB : ByteArray := ⟨#[117, 112]⟩
def gotB : ByteArray := ⟨#[103, 111, 116]⟩
def outB : ByteArray := ⟨#[111, 117, 116]⟩
theorem recB_one (s v : Nat) : recB 1 s v = upB ++ (mkB [32] ++ (decB s ++ (mkB [32] ++ decB v))) := by
  unfold recB; rw [if_pos rfl]
  apply bext; simp [upB, mkB]
theorem recB_two (s v : Nat) : recB 2 s v = gotB ++ (mkB [32] ++ (decB s ++ (mkB [32] ++ decB v))) := by
  unfold recB; rw [if_neg (by decide), if_pos rfl]
  apply bext; simp [gotB, mkB]
theorem recB_three (s v : Nat) : recB 3 s v = outB ++ (mkB [32] ++ decB s) := by
  unfold recB; rw [if_neg (by decide), if_neg (by decide)]
  apply bext; simp [outB, mkB]
theorem cuts_rec1 (s v : Nat) : cuts (recB 1 s v) 32 = [upB, decB s, decB v] := by
  rw [recB_one, cuts_app (by decide), cuts_app (dec_sp _), cuts_one (dec_sp _)]
theorem cuts_rec2 (s v : Nat) : cuts (recB 2 s v) 32 = [gotB, decB s, decB v] := by
  rw [recB_two, cuts_app (by decide), cuts_app (dec_sp _), cuts_one (dec_sp _)]
theorem cuts_rec3 (s v : Nat) : cuts (recB 3 s v) 32 = [outB, decB s] := by
  rw [recB_three, cuts_app (by decide), cuts_one (dec_sp _)]
/-- what words say of a right record -/
theorem isRec_words {st sm : Int} {line : ByteArray} {r : Int × Int × Int} (h : IsRec st sm line r) (h2 : sm ≤ 8) (h4 : st ≤ 6) :
    (r.1 = 1 ∧ ∃ a b : Nat, r.2.1 = (a : Int) ∧ r.2.2 = (b : Int) ∧ a < 1000 ∧ b < 1000 ∧ cuts line 32 = [upB, decB a, decB b]) ∨
    (r.1 = 2 ∧ ∃ a b : Nat, r.2.1 = (a : Int) ∧ r.2.2 = (b : Int) ∧ a < 1000 ∧ b < 1000 ∧ cuts line 32 = [gotB, decB a, decB b]) ∨
    (r.1 = 3 ∧ ∃ a : Nat, r.2.1 = (a : Int) ∧ r.2.2 = 0 ∧ a < 1000 ∧ cuts line 32 = [outB, decB a]) := by
  obtain ⟨h1, e⟩ := h
  obtain ⟨hk, a, b, ha, hb, ha1, hb1⟩ := recOk_nat h1 h2 h4
  rw [ha, hb] at e
  simp only [Int.toNat_natCast] at e
  rcases hk with hk | hk | hk
  · rw [hk] at e
    exact .inl ⟨hk, a, b, ha, hb, ha1, hb1, by rw [← e, cuts_rec1]⟩
  · rw [hk] at e
    exact .inr (.inl ⟨hk, a, b, ha, hb, ha1, hb1, by rw [← e, cuts_rec2]⟩)
  · rw [hk] at e
    refine .inr (.inr ⟨hk, a, ha, ?_, ha1, by rw [← e, cuts_rec3]⟩)
    unfold recOk at h1
    rw [hk] at h1
    simp at h1
    exact h1.2
theorem decB_inj {a b : Nat} (h : decB a = decB b) : a = b := by
  have h3 : valG (decB a) 0 0 = valG (decB b) 0 0 := by rw [h]
  rw [valG_decB, valG_decB] at h3
  omega
theorem isRec_one {st sm : Int} {line : ByteArray} {r q : Int × Int × Int} (h : IsRec st sm line r) (h' : IsRec st sm line q) (h2 : sm ≤ 8) (h4 : st ≤ 6) : r = q := by
  obtain ⟨r0, r1, r2⟩ := r
  obtain ⟨q0, q1, q2⟩ := q
  rcases isRec_words h h2 h4 with ⟨rfl, a, b, ha, hb, _, _, e⟩ | ⟨rfl, a, b, ha, hb, _, _, e⟩ | ⟨rfl, a, ha, hb, _, e⟩ <;>
    rcases isRec_words h' h2 h4 with ⟨rfl, c, d, hc, hd, _, _, e2⟩ | ⟨rfl, c, d, hc, hd, _, _, e2⟩ | ⟨rfl, c, hc, hd, _, e2⟩ <;>
    (rw [e] at e2; simp at e2)
  · simp only at ha hb hc hd
    rw [ha, hb, hc, hd, decB_inj e2.1, decB_inj e2.2]
  · exact absurd e2.1 (by decide)
  · exact absurd e2.1 (by decide)
  · simp only at ha hb hc hd
    rw [ha, hb, hc, hd, decB_inj e2.1, decB_inj e2.2]
  · simp only at ha hb hc hd
    rw [ha, hb, hc, hd, decB_inj e2]
/-- the words' reading by the reference: kind, numbers -/
def kindW (x : ByteArray) : Int := if x = upB then 1 else if x = gotB then 2 else if x = outB then 3 else 0
theorem isRec_of {st sm : Int} {line x : ByteArray} {k : Int} {n : List Int} {y : List ByteArray} (hc : cuts line 32 = x :: y) (hk : kindW x = k)
    (hn : (n.length = 2 ∧ (k = 1 ∨ k = 2) ∧ y.length = 2 ∧ (∀ i (h : i < n.length) (h' : i < y.length), 0 ≤ n[i] → y[i] = decB n[i].toNat)) ∨ (n.length = 1 ∧ k = 3 ∧ y.length = 1 ∧ (∀ i (h : i < n.length) (h' : i < y.length), 0 ≤ n[i] → y[i] = decB n[i].toNat)))
    (hr : recOk st sm k (n.getD 0 0) (n.getD 1 0) = true) (h2 : sm ≤ 8) (h4 : st ≤ 6) : IsRec st sm line (k, n.getD 0 0, n.getD 1 0) := by
  refine ⟨hr, ?_⟩
  obtain ⟨hk3, a, b, ha, hb, _, _⟩ := recOk_nat hr h2 h4
  have hx : (k = 1 → x = upB) ∧ (k = 2 → x = gotB) ∧ (k = 3 → x = outB) := by
    unfold kindW at hk
    refine ⟨fun e => ?_, fun e => ?_, fun e => ?_⟩ <;> subst e <;> revert hk <;> (repeat' split) <;> simp_all
  rcases hn with ⟨hl, hkk, hyl, hd⟩ | ⟨hl, hkk, hyl, hd⟩
  · match n, hl, y, hyl with
    | [n0, n1], _, [y0, y1], _ =>
      simp at ha hb ⊢
      have e0 := hd 0 (by simp) (by simp) (by simp; omega)
      have e1 := hd 1 (by simp) (by simp) (by simp; omega)
      simp at e0 e1
      rw [e0, e1] at hc
      have h5 := cuts_back3 hc
      rcases hkk with rfl | rfl
      · rw [recB_one, h5, hx.1 rfl]
      · rw [recB_two, h5, hx.2.1 rfl]
  · match n, hl, y, hyl with
    | [n0], _, [y0], _ =>
      simp at ha ⊢
      have e0 := hd 0 (by simp) (by simp) (by simp; omega)
      simp at e0
      rw [e0] at hc
      have h5 := cuts_back2 hc
      subst hkk
      rw [recB_three, h5, hx.2.2 rfl]

/-- numbers as the program reads them -/
def readsG : List ByteArray → List Int → List Int × Bool
  | [], acc => (acc, true)
  | x :: r, acc => if (readG x).2 = true then readsG r (acc ++ [(readG x).1]) else ([], false)
theorem readsG_step {l : List ByteArray} {acc : List Int} {k : Nat} (h : k < l.length) : readsG (l.drop k) acc = if (readG l[k]).2 = true then readsG (l.drop (k + 1)) (acc ++ [(readG l[k]).1]) else ([], false) := by
  rw [List.drop_eq_getElem_cons h]; rfl
theorem readsG_spec : ∀ (l : List ByteArray) (acc : List Int), (readsG l acc).2 = true → (readsG l acc).1 = acc ++ l.map (fun x => (readG x).1) ∧ ∀ x ∈ l, x = decIB (readG x).1
  | [], acc, _ => by simp [readsG]
  | x :: r, acc, h => by
    unfold readsG at h ⊢
    by_cases hx : (readG x).2 = true
    · rw [if_pos hx] at h ⊢
      obtain ⟨h1, h2⟩ := readsG_spec r _ h
      refine ⟨by rw [h1]; simp, fun y hy => ?_⟩
      simp at hy
      rcases hy with rfl | hy
      · exact readG_back hx
      · exact h2 y hy
    · rw [if_neg hx] at h; simp at h
theorem numsG_spec : ∀ (l : List ByteArray) (acc : List Int), (numsG l acc).2 = true → (numsG l acc).1 = acc ++ l.map numN ∧ ∀ x ∈ l, 0 ≤ numN x
  | [], acc, _ => by simp [numsG]
  | x :: r, acc, h => by
    unfold numsG at h ⊢
    by_cases hx : numN x < 0
    · rw [if_pos hx] at h; simp at h
    · rw [if_neg hx] at h ⊢
      obtain ⟨h1, h2⟩ := numsG_spec r _ h
      refine ⟨by rw [h1]; simp, fun y hy => ?_⟩
      simp at hy
      rcases hy with rfl | hy
      · omega
      · exact h2 y hy
def recPick (x : ByteArray) (n : List Int) (ok : Bool) : Int × Int × Int :=
  if ok = true then (if x = upB ∧ n.length = 2 then (1, n.getD 0 0, n.getD 1 0) else if x = gotB ∧ n.length = 2 then (2, n.getD 0 0, n.getD 1 0) else if x = outB ∧ n.length = 1 then (3, n.getD 0 0, 0) else (0, 0, 0)) else (0, 0, 0)
/-- the record that the program makes of a line -/
def readRecR (line : ByteArray) : Int × Int × Int :=
  recPick ((cuts line 32).getD 0 ⟨#[]⟩) (readsG ((cuts line 32).drop 1) []).1 (readsG ((cuts line 32).drop 1) []).2
theorem readRecR_of {st sm : Int} {line : ByteArray} {r : Int × Int × Int} (h : IsRec st sm line r) (h2 : sm ≤ 8) (h4 : st ≤ 6) : readRecR line = r := by
  obtain ⟨r0, r1, r2⟩ := r
  rcases isRec_words h h2 h4 with ⟨rfl, a, b, ha, hb, ha1, hb1, e⟩ | ⟨rfl, a, b, ha, hb, ha1, hb1, e⟩ | ⟨rfl, a, ha, hb, ha1, e⟩ <;> simp only at ha hb <;> subst ha hb <;> unfold readRecR <;> rw [e]
  · simp [readsG, readG_decB (show a < 1000000000000000000 by omega), readG_decB (show b < 1000000000000000000 by omega), recPick]
  · have : ¬ gotB = upB := by decide
    simp [readsG, readG_decB (show a < 1000000000000000000 by omega), readG_decB (show b < 1000000000000000000 by omega), recPick, this]
  · have h5 : ¬ outB = upB := by decide
    have h6 : ¬ outB = gotB := by decide
    simp [readsG, readG_decB (show a < 1000000000000000000 by omega), recPick, h5, h6]
theorem cuts_cons (s : ByteArray) (c : UInt8) : cuts s c = (cuts s c).getD 0 ⟨#[]⟩ :: (cuts s c).drop 1 := by
  have := cuts_len s c
  cases h : cuts s c with
  | nil => rw [h] at this; simp at this
  | cons x r => rfl
theorem readRecR_back {st sm : Int} {line : ByteArray} (h2 : sm ≤ 8) (h4 : st ≤ 6) (h : recOk st sm (readRecR line).1 (readRecR line).2.1 (readRecR line).2.2 = true) : IsRec st sm line (readRecR line) := by
  have hz : recOk st sm 0 0 0 = false := by unfold recOk; simp
  have hc := cuts_cons line 32
  unfold readRecR at h ⊢
  generalize (cuts line 32).getD 0 ⟨#[]⟩ = x at hc h ⊢
  generalize hy : (cuts line 32).drop 1 = y at hc h ⊢
  generalize hn : readsG y [] = R at h ⊢
  obtain ⟨n, ok⟩ := R
  unfold recPick at h ⊢
  by_cases hok : ok = true
  · rw [if_pos hok] at h ⊢
    subst hok
    obtain ⟨h5, h6⟩ := readsG_spec y [] (by rw [hn])
    rw [hn] at h5
    simp at h5
    have hyl : y.length = n.length := by rw [h5]; simp
    have hdec : ∀ i (h : i < n.length) (h' : i < y.length), 0 ≤ n[i] → y[i] = decB n[i].toNat := by
      intro i hi hi' h0
      have h7 := h6 _ (List.getElem_mem hi')
      have h8 : n[i] = (readG y[i]).1 := by simp [h5]
      rw [h8] at h0 ⊢
      rw [← decIB_pos h0]; exact h7
    by_cases c1 : x = upB ∧ n.length = 2
    · rw [if_pos c1] at h ⊢
      exact isRec_of hc (k := 1) (by unfold kindW; rw [if_pos c1.1]) (.inl ⟨c1.2, .inl rfl, by omega, hdec⟩) h h2 h4
    · rw [if_neg c1] at h ⊢
      by_cases c2 : x = gotB ∧ n.length = 2
      · rw [if_pos c2] at h ⊢
        exact isRec_of hc (k := 2) (by unfold kindW; rw [if_neg (by rw [c2.1]; decide), if_pos c2.1]) (.inl ⟨c2.2, .inr rfl, by omega, hdec⟩) h h2 h4
      · rw [if_neg c2] at h ⊢
        by_cases c3 : x = outB ∧ n.length = 1
        · rw [if_pos c3] at h ⊢
          have e1 : n.getD 1 0 = 0 := by simp [c3.2]
          have := isRec_of hc (k := 3) (n := n) (st := st) (sm := sm) (by unfold kindW; rw [if_neg (by rw [c3.1]; decide), if_neg (by rw [c3.1]; decide), if_pos c3.1]) (.inr ⟨c3.2, rfl, by omega, hdec⟩) (by rw [e1]; exact h) h2 h4
          rw [e1] at this
          exact this
        · rw [if_neg c3] at h
          rw [hz] at h; simp at h
  · rw [if_neg hok] at h
    rw [hz] at h; simp at h
/-- the reference's reading: kind, numbers, and whether it is a record -/
def parseOk (st sm : Int) (k : Int) (n : List Int) (ok : Bool) : Bool :=
  ok && (decide (1 ≤ n.length) && (decide (n.length ≤ 2) && (decide (n.length = 1) == decide (k = 3) && recOk st sm k (n.getD 0 0) (n.getD 1 0))))
theorem parse_back {st sm : Int} {line : ByteArray} (h2 : sm ≤ 8) (h4 : st ≤ 6)
    (h : parseOk st sm (kindW ((cuts line 32).getD 0 ⟨#[]⟩)) (numsG ((cuts line 32).drop 1) []).1 (numsG ((cuts line 32).drop 1) []).2 = true) :
    IsRec st sm line (kindW ((cuts line 32).getD 0 ⟨#[]⟩), (numsG ((cuts line 32).drop 1) []).1.getD 0 0, (numsG ((cuts line 32).drop 1) []).1.getD 1 0) := by
  have hc := cuts_cons line 32
  generalize (cuts line 32).getD 0 ⟨#[]⟩ = x at hc h ⊢
  generalize hy : (cuts line 32).drop 1 = y at hc h ⊢
  generalize hn : numsG y [] = R at h ⊢
  obtain ⟨n, ok⟩ := R
  unfold parseOk at h
  simp only [Bool.and_eq_true, decide_eq_true_eq] at h
  obtain ⟨hok, l1, l2, hkl, hr⟩ := h
  subst hok
  have l1 : 1 ≤ n.length := l1
  have l2 : n.length ≤ 2 := l2
  obtain ⟨h5, h6⟩ := numsG_spec y [] (by rw [hn])
  rw [hn] at h5
  simp at h5
  have hyl : y.length = n.length := by rw [h5]; simp
  have hdec : ∀ i (h : i < n.length) (h' : i < y.length), 0 ≤ n[i] → y[i] = decB n[i].toNat := by
    intro i hi hi' h0
    have h8 : n[i] = numN y[i] := by simp [h5]
    rw [h8]
    exact numN_back (h6 _ (List.getElem_mem hi'))
  have hk := (recOk_nat hr h2 h4).1
  refine isRec_of hc rfl ?_ hr h2 h4
  by_cases e1 : n.length = 1
  · refine .inr ⟨e1, ?_, by omega, hdec⟩
    simp [e1] at hkl
    exact hkl
  · refine .inl ⟨show n.length = 2 by omega, ?_, by omega, hdec⟩
    simp [e1] at hkl
    omega
theorem parse_of {st sm : Int} {line : ByteArray} {r : Int × Int × Int} (h : IsRec st sm line r) (h2 : sm ≤ 8) (h4 : st ≤ 6) :
    parseOk st sm (kindW ((cuts line 32).getD 0 ⟨#[]⟩)) (numsG ((cuts line 32).drop 1) []).1 (numsG ((cuts line 32).drop 1) []).2 = true := by
  obtain ⟨r0, r1, r2⟩ := r
  have hr := h.1
  rcases isRec_words h h2 h4 with ⟨rfl, a, b, ha, hb, ha1, hb1, e⟩ | ⟨rfl, a, b, ha, hb, ha1, hb1, e⟩ | ⟨rfl, a, ha, hb, ha1, e⟩ <;> simp only at ha hb hr <;> subst ha hb <;> rw [e]
  · have n1 := numN_decB (show a < 1000000000 by omega)
    have n2 := numN_decB (show b < 1000000000 by omega)
    have k1 : kindW upB = 1 := by decide
    have c1 : ¬ (a : Int) < 0 := by omega
    have c2 : ¬ (b : Int) < 0 := by omega
    simp [numsG, n1, n2, c1, c2, parseOk, k1, hr]
  · have n1 := numN_decB (show a < 1000000000 by omega)
    have n2 := numN_decB (show b < 1000000000 by omega)
    have k1 : kindW gotB = 2 := by decide
    have c1 : ¬ (a : Int) < 0 := by omega
    have c2 : ¬ (b : Int) < 0 := by omega
    simp [numsG, n1, n2, c1, c2, parseOk, k1, hr]
  · have n1 := numN_decB (show a < 1000000000 by omega)
    have k1 : kindW outB = 3 := by decide
    have c1 : ¬ (a : Int) < 0 := by omega
    simp [numsG, n1, c1, parseOk, k1, hr]
/-- a line's record, if it is one -/
def recOf (st sm : Int) (line : ByteArray) : Option (Int × Int × Int) :=
  if recOk st sm (readRecR line).1 (readRecR line).2.1 (readRecR line).2.2 = true then some (readRecR line) else none
theorem recOf_parse {st sm : Int} {line : ByteArray} (h2 : sm ≤ 8) (h4 : st ≤ 6) :
    recOf st sm line = if parseOk st sm (kindW ((cuts line 32).getD 0 ⟨#[]⟩)) (numsG ((cuts line 32).drop 1) []).1 (numsG ((cuts line 32).drop 1) []).2 = true then some (kindW ((cuts line 32).getD 0 ⟨#[]⟩), (numsG ((cuts line 32).drop 1) []).1.getD 0 0, (numsG ((cuts line 32).drop 1) []).1.getD 1 0) else none := by
  unfold recOf
  split
  · rename_i h
    have h5 := readRecR_back h2 h4 h
    rw [if_pos (parse_of h5 h2 h4), isRec_one h5 (parse_back h2 h4 (parse_of h5 h2 h4)) h2 h4]
  · rename_i h
    rw [if_neg]
    intro hp
    have h5 := parse_back h2 h4 hp
    have h6 := readRecR_of h5 h2 h4
    apply h
    rw [h6]; exact h5.1
end Go.Proofs.Ytijpkcdalmlaiaa
namespace Go.Proofs.Ytijpkcdalmlaiaa
open Go.RowKit Go.Sort
theorem readsG_len : ∀ (l : List ByteArray) (acc : List Int), (readsG l acc).1.length ≤ acc.length + l.length
  | [], acc => by simp [readsG]
  | x :: r, acc => by
    unfold readsG
    split
    · have := readsG_len r (acc ++ [(readG x).1]); simp at this ⊢; omega
    · simp
/-- behind a word -/
def behindG (line word : ByteArray) : List Int × Bool := if (cuts line 32).getD 0 ⟨#[]⟩ = word then readsG ((cuts line 32).drop 1) [] else ([], false)
end Go.Proofs.Ytijpkcdalmlaiaa
