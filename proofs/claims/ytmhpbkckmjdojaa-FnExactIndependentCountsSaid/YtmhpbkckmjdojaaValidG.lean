/-
  Graphs: valid or not, both sides.
-/
import Derived.Test.YtmhpbkckmjdojaaCompare
namespace Go.Proofs.Ytmhpbkckmjdojaa
open Go.RowKit Go.Sort
/-- an edge, with the greatest node hi and e0 + 1 as the machine has it -/
def edgeW (hi : Int) (e : List Int) : Bool := decide (e.length = 2) && (inR (e.getD 0 0) 0 hi && inR (e.getD 1 0) (IntKind.i64.wrap (e.getD 0 0 + 1)) hi)
def stepW (hi : Int) (es : List (List Int)) (k : Nat) : Bool := edgeW hi (es.getD k []) && (decide (k = 0) || lessL (es.getD (k - 1) []) (es.getD k []))
def okN (hi : Int) (es : List (List Int)) : Nat → Bool
  | 0 => true
  | k + 1 => okN hi es k && stepW hi es k
def graphOk (n : Int) (es : List (List Int)) : Bool := inR n 1 5 && okN (IntKind.i64.wrap (n - 1)) es es.length
theorem okN_false {hi : Int} {es : List (List Int)} {k : Nat} (h : stepW hi es k = false) : ∀ {m : Nat}, k < m → okN hi es m = false
  | 0, h1 => by omega
  | m + 1, h1 => by
    unfold okN
    by_cases hk : k = m
    · subst hk; rw [h]; simp
    · rw [okN_false h (show k < m by omega)]; rfl
theorem getD_at {α : Type} {l : List α} {k : Nat} {d : α} (h : k < l.length) : l.getD k d = l[k] := by
  rw [List.getD_eq_getElem?_getD, List.getElem?_eq_getElem h]; rfl
theorem len2 {e : List Int} (h : e.length = 2) : ∃ a b, e = [a, b] := by
  match e, h with
  | [a, b], _ => exact ⟨a, b, rfl⟩
theorem edgeW_no {hi : Int} {e : List Int} (h : ¬ e.length = 2) : edgeW hi e = false := by simp [edgeW, h]
theorem edgeW_two {hi a b q : Int} (h : IntKind.i64.wrap (a + 1) = q) : edgeW hi [a, b] = (inR a 0 hi && inR b q hi) := by simp [edgeW, h]
theorem Compare_b {u v : Value} {xs ys : List Int} {c : Int} (h : cmpL xs ys = c) (w : World) (ha : SlI w u xs) (hb : SlI w v ys) : Calls Try.prog 56 #[u, v] w fun e w' => e = .returned (.int .i64 c) ∧ Below w.heap.size w w' :=
  (Compare_any w ha hb).mono fun e w' ⟨h1, h2⟩ => ⟨by rw [h1, h], by rw [h2]; exact Below.refl _ _⟩
set_option maxRecDepth 100000 in
set_option maxHeartbeats 4000000 in
theorem ImplValidGraph_any {v : Value} {es : List (List Int)} (n : Int) (w : World) (ha : SlII w v es) :
    Calls Try.prog 32 #[.agg #[.int .i64 n, v]] w fun e w' => e = .returned (.bool (graphOk n es)) ∧ Below w.heap.size w w' := by
  obtain ⟨a, ca, us, rfl, hca, hca', hul, hrd, hrow⟩ := ha
  have bx : Below w.heap.size w (w.alloc (.cells #[.int .i64 n, .slice a es.length ca] 29)) := (Below.refl _ _).alloc (Nat.le_refl _) _
  have HG := Lib.hid (fun W (h : Below w.heap.size w W) => And.intro (hrd.below h) (fun i hi u hu => (hrow i hi u hu).below h))
  have X := Lib.hid (CellsAt.new w [.int .i64 n, .slice a es.length ca] 29)
  have HU := Lib.hid hul
  obtain ⟨hi, hhi⟩ : ∃ hi, IntKind.i64.wrap (n - 1) = hi := ⟨_, rfl⟩
  have hG : graphOk n es = (inR n 1 5 && okN hi es es.length) := by unfold graphOk; rw [hhi]
  have HGO := Lib.hid hG
  generalize hq : inR n 1 5 = q at hG
  have HQ := Lib.hid hq
  have HHI := Lib.hid hhi
  unfold maxLen at hca'
  clear hG hq hul hrd hrow hhi
  go_enter Try.func32, Try.ntmps32
  go_wp2
  go_loopw [3, 4, 8] (fun _ _ i wr => ∃ k : Nat, k ≤ es.length ∧ i = .int .i64 k ∧ Hid (okN hi es k = true) ∧ Below (w.alloc (.cells #[.int .i64 n, .slice a es.length ca] 29)).heap.size (w.alloc (.cells #[.int .i64 n, .slice a es.length ca] 29)) wr) (fun _ _ i _ => es.length - (intOf i).toNat)
  case atStart => exact ⟨0, Nat.zero_le _, rfl, rfl, Below.refl _ _⟩
  case round =>
    obtain ⟨k, hk, rfl, hok, hbr⟩ := hrel
    have hbw := bx.trans (hbr.mono bx.size)
    have x1 := X.out.below hbr
    have c0 := x1.get 0 _ rfl
    have c1 := x1.get 1 _ rfl
    clear x1
    by_cases hlt : k < es.length
    · obtain ⟨x, b, off, rfl, gc, sx⟩ := SlII.row HU.out (HG.out _ hbw).1 (HG.out _ hbw).2 hlt
      have i1 : (k : Int) < (es.length : Int) := by omega
      have hes : stepW hi es k = (edgeW hi es[k] && (decide (k = 0) || lessL (es.getD (k - 1) []) es[k])) := by unfold stepW; rw [getD_at hlt]
      have HES := Lib.hid hes
      have SX := Lib.hid sx
      obtain ⟨ea, ec, rfl, _, _, erd⟩ := id sx
      clear hes
      by_cases hl : es[k].length = 2
      · have ht : ((es[k].length : Int) != 2) = false := by rw [hl]; rfl
        have j0 : (0 : Int) < (es[k].length : Int) := by rw [hl]; decide
        have j1 : (1 : Int) < (es[k].length : Int) := by rw [hl]; decide
        have jn0 : 0 < es[k].length := by omega
        have jn1 : 1 < es[k].length := by omega
        obtain ⟨eb, eo, rfl, g0⟩ := erd.one (i64s_get jn0)
        obtain ⟨eb', eo', he', g1⟩ := erd.one (i64s_get jn1)
        simp only [Option.some.injEq, Addr.mk.injEq] at he'
        obtain ⟨rfl, rfl, _⟩ := he'
        obtain ⟨e0, e1, he⟩ := len2 hl
        have he0 : es[k][0] = e0 := by simp [he]
        have he1 : es[k][1] = e1 := by simp [he]
        rw [he0, Nat.add_zero] at g0
        rw [he1] at g1
        have HE := Lib.hid he
        obtain ⟨q0, hq0⟩ : ∃ q0, IntKind.i64.wrap (e0 + 1) = q0 := ⟨_, rfl⟩
        have hW : edgeW hi es[k] = (inR e0 0 hi && inR e1 q0 hi) := by rw [he]; exact edgeW_two hq0
        generalize hp1 : inR e0 0 hi = p1 at hW
        generalize hp2 : inR e1 q0 hi = p2 at hW
        have HW := Lib.hid hW
        have HP1 := Lib.hid hp1
        have HP2 := Lib.hid hp2
        have HQ0 := Lib.hid hq0
        clear hW hp1 hp2 hq0 he he0 he1 erd sx hl
        have k0 := fun d os => cell_regrown c0 d os
        have k1 := fun d os => cell_regrown c1 d os
        have kg0 := fun d os => cell_regrown g0 d os
        have kg1 := fun d os => cell_regrown g1 d os
        have NO : stepW hi es k = false → graphOk n es = false := fun h => by rw [HGO.out, okN_false h hlt]; simp
        have HNO := Lib.hid NO
        have r0 := HHI.out
        have r1 := HQ0.out
        clear NO
        cases p1
        · go_wp2_with fail
          refine wp_region_quiet_below (by kernel_rfl) (by kernel_rfl) ?_
          repeat (first | go_big_quiet_skip | quiet_step (first | (with_reducible exact Calls.regrown_of (inRange_q HP1.out _)) | (with_reducible exact Calls.regrown_of (inRange_q HP2.out _)) | (with_reducible exact Calls.regrown_of (Compare_b HC.out _ (SP.out.below (below_regrown _ _ _)) (SX.out.below (below_regrown _ _ _))))))
          refine wpQuiet_nil ?_
          intro _ hw'
          obtain ⟨⟨dq, osq⟩, hw''⟩ := hw'
          subst hw''
          have bq0 := below_regrown wr dq osq
          generalize grow (redrawn wr dq) osq = wq at bq0 ⊢
          clear r0 r1 k0 k1 kg0 kg1
          go_wp2
          go_ret
          exact ⟨rb (HNO.out (by rw [HES.out, HW.out]; rfl)).symm, hbw.trans (bq0.mono hbw.size)⟩
        · cases p2
          · go_wp2_with fail
            refine wp_region_quiet_below (by kernel_rfl) (by kernel_rfl) ?_
            repeat (first | go_big_quiet_skip | quiet_step (first | (with_reducible exact Calls.regrown_of (inRange_q HP1.out _)) | (with_reducible exact Calls.regrown_of (inRange_q HP2.out _)) | (with_reducible exact Calls.regrown_of (Compare_b HC.out _ (SP.out.below (below_regrown _ _ _)) (SX.out.below (below_regrown _ _ _))))))
            refine wpQuiet_nil ?_
            intro _ hw'
            obtain ⟨⟨dq, osq⟩, hw''⟩ := hw'
            subst hw''
            have bq0 := below_regrown wr dq osq
            generalize grow (redrawn wr dq) osq = wq at bq0 ⊢
            clear r0 r1 k0 k1 kg0 kg1
            go_wp2
            go_ret
            exact ⟨rb (HNO.out (by rw [HES.out, HW.out]; rfl)).symm, hbw.trans (bq0.mono hbw.size)⟩
          · by_cases hk0 : k = 0
            · have hk0' : decide (0 < k) = false := by simp; omega
              have HK0 := Lib.hid hk0
              clear hk0
              go_wp2_with fail
              refine wp_region_quiet_below (by kernel_rfl) (by kernel_rfl) ?_
              repeat (first | go_big_quiet_skip | quiet_step (first | (with_reducible exact Calls.regrown_of (inRange_q HP1.out _)) | (with_reducible exact Calls.regrown_of (inRange_q HP2.out _)) | (with_reducible exact Calls.regrown_of (Compare_b HC.out _ (SP.out.below (below_regrown _ _ _)) (SX.out.below (below_regrown _ _ _))))))
              refine wpQuiet_nil ?_
              intro _ hw'
              obtain ⟨⟨dq, osq⟩, hw''⟩ := hw'
              subst hw''
              have bq0 := below_regrown wr dq osq
              generalize grow (redrawn wr dq) osq = wq at bq0 ⊢
              clear r0 r1 k0 k1 kg0 kg1 hk0'
              have hb2 := hbr.trans (bq0.mono hbr.size)
              go_wp2
              go_roundw
              case rel => exact ⟨k + 1, by omega, by go_num, by unfold Hid okN; rw [hok.out, HES.out, HW.out]; simp [HK0.out], hb2⟩
              case measure => simp [intOf]; omega
            · obtain ⟨m, hm⟩ : ∃ m, k = m + 1 := ⟨k - 1, by omega⟩
              have r2 : IntKind.i64.wrap ((k : Int) - 1) = (m : Int) := by rw [IntWalk.i64_in _ (by omega)]; omega
              have hkp : decide (0 < k) = true := by simp; omega
              have hml : m < es.length := by omega
              have i3 : (0 : Int) ≤ (m : Int) := by omega
              have i4 : (m : Int) < (es.length : Int) := by omega
              obtain ⟨x', b', off', he', gc', sx'⟩ := SlII.row HU.out (HG.out _ hbw).1 (HG.out _ hbw).2 hml
              simp only [Option.some.injEq, Addr.mk.injEq] at he'
              obtain ⟨rfl, rfl, _⟩ := he'
              obtain ⟨pa, pc, rfl, _⟩ := id sx'
              have SP := Lib.hid sx'
              have kp := fun d os => cell_regrown gc' d os
              have hst : stepW hi es k = lessL es[m] es[k] := by
                have e1 : k - 1 = m := by omega
                rw [HES.out, HW.out, e1, getD_at hml]
                simp [hk0]
              have hcl := cmpL_less es[m] es[k]
              generalize hc : cmpL es[m] es[k] = c at hcl
              generalize hl3 : lessL es[m] es[k] = l3 at hst hcl
              have HST := Lib.hid hst
              have HCL := Lib.hid hcl
              have HC := Lib.hid hc
              have HM := Lib.hid hm
              clear hst hcl hc hm gc' sx' hl3
              cases l3
              · have hc0 : 0 ≤ c := by have := HCL.out; simpa using this
                go_wp2_with fail
                refine wp_region_quiet_below (by kernel_rfl) (by kernel_rfl) ?_
                repeat (first | go_big_quiet_skip | quiet_step (first | (with_reducible exact Calls.regrown_of (inRange_q HP1.out _)) | (with_reducible exact Calls.regrown_of (inRange_q HP2.out _)) | (with_reducible exact Calls.regrown_of (Compare_b HC.out _ (SP.out.below (below_regrown _ _ _)) (SX.out.below (below_regrown _ _ _))))))
                refine wpQuiet_nil ?_
                intro _ hw'
                obtain ⟨⟨dq, osq⟩, hw''⟩ := hw'
                subst hw''
                have bq0 := below_regrown wr dq osq
                generalize grow (redrawn wr dq) osq = wq at bq0 ⊢
                clear r0 r1 r2 k0 k1 kg0 kg1 kp hkp
                go_wp2
                go_ret
                exact ⟨rb (HNO.out HST.out).symm, hbw.trans (bq0.mono hbw.size)⟩
              · have hc0 : c < 0 := by have := HCL.out; simpa using this
                go_wp2_with fail
                refine wp_region_quiet_below (by kernel_rfl) (by kernel_rfl) ?_
                repeat (first | go_big_quiet_skip | quiet_step (first | (with_reducible exact Calls.regrown_of (inRange_q HP1.out _)) | (with_reducible exact Calls.regrown_of (inRange_q HP2.out _)) | (with_reducible exact Calls.regrown_of (Compare_b HC.out _ (SP.out.below (below_regrown _ _ _)) (SX.out.below (below_regrown _ _ _))))))
                refine wpQuiet_nil ?_
                intro _ hw'
                obtain ⟨⟨dq, osq⟩, hw''⟩ := hw'
                subst hw''
                have bq0 := below_regrown wr dq osq
                generalize grow (redrawn wr dq) osq = wq at bq0 ⊢
                clear r0 r1 r2 k0 k1 kg0 kg1 kp hkp
                have hb2 := hbr.trans (bq0.mono hbr.size)
                go_wp2
                go_roundw
                case rel => exact ⟨k + 1, by omega, by go_num, by unfold Hid okN; rw [hok.out, HST.out]; rfl, hb2⟩
                case measure => simp [intOf]; omega
      · have ht : ((es[k].length : Int) != 2) = true := by simp; omega
        have hno := edgeW_no (hi := hi) hl
        have HNO := Lib.hid hno
        clear hno hl
        go_wp2_with fail
        refine wp_region_quiet_below (by kernel_rfl) (by kernel_rfl) ?_
        repeat (first | go_big_quiet_skip | quiet_step (first | (with_reducible exact Calls.regrown_of (inRange_q HP1.out _))))
        refine wpQuiet_nil ?_
        intro _ hw'
        obtain ⟨⟨dq, osq⟩, hw''⟩ := hw'
        subst hw''
        have bq0 := below_regrown wr dq osq
        generalize grow (redrawn wr dq) osq = wq at bq0 ⊢
        go_wp2
        go_ret
        exact ⟨rb (by rw [HGO.out, okN_false (by rw [HES.out, HNO.out]; rfl) hlt]; simp), (hbw.trans (bq0.mono hbw.size))⟩
    · obtain rfl : k = es.length := by omega
      go_wp2_with (go_at_call 41; refine (inRange_any _ _ _ _).mono ?_; rintro e w' ⟨rfl, rfl⟩)
      go_ret
      exact ⟨rb (by rw [HGO.out, hok.out]; simp), hbw⟩
end Go.Proofs.Ytmhpbkckmjdojaa
