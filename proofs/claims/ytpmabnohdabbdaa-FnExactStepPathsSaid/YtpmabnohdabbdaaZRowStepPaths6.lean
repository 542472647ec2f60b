/-
  Marks in rows, with what they leave; marks held in rows. With it: Graphs: valid or not, both sides. A search by (impl.Graph).isColouring$1. A search by (impl.Graph).areColours$1. A search by (impl.Graph).isIndependent$1. Rising runs: a deck's place among all, its runs, both sides. A search by (impl.Graph).free$1. A search by impl.deckIndex$1. A search by impl.changed$1. A search by impl.weightCode$1. A search by (impl.Graph).blocked$1.
-/
import Derived.Test.YtpmabnohdabbdaaZRowStepPaths5
import Derived.Test.YtpmabnohdabbdaaZRowStepPaths4
set_option linter.unusedVariables false
set_option linter.unusedSimpArgs false
namespace Go.Proofs.Ytpmabnohdabbdaa
open Go.RowKit Go.Sort
/-- an edge, with the greatest node hi and e0 + 1 as the machine has it -/
def edgeW (hi : Int) (e : List Int) : Bool := decide (e.length = 2) && (inR (e.getD 0 0) 0 hi && inR (e.getD 1 0) (IntKind.i64.wrap (e.getD 0 0 + 1)) hi)
def stepW (hi : Int) (es : List (List Int)) (k : Nat) : Bool := edgeW hi (es.getD k []) && (decide (k = 0) || lessL (es.getD (k - 1) []) (es.getD k []))
def okN (hi : Int) (es : List (List Int)) : Nat → Bool
  | 0 => true
  | k + 1 => okN hi es k && stepW hi es k
def graphOk (n : Int) (es : List (List Int)) : Bool := inR n 1 5 && okN (IntKind.i64.wrap (n - 1)) es es.length
theorem okN_false {hi : Int} {es : List (List Int)} {k : Nat} (h : stepW hi es k = false) : ∀ {m : Nat}, k < m → okN hi es m = false
  | 0, h1 => by omega
  | m + 1, h1 => by
    unfold okN
    by_cases hk : k = m
    · subst hk; rw [h]; simp
    · rw [okN_false h (show k < m by omega)]; rfl
theorem getD_at {α : Type} {l : List α} {k : Nat} {d : α} (h : k < l.length) : l.getD k d = l[k] := by
  rw [List.getD_eq_getElem?_getD, List.getElem?_eq_getElem h]; rfl
theorem len2 {e : List Int} (h : e.length = 2) : ∃ a b, e = [a, b] := by
  match e, h with
  | [a, b], _ => exact ⟨a, b, rfl⟩
theorem edgeW_no {hi : Int} {e : List Int} (h : ¬ e.length = 2) : edgeW hi e = false := by simp [edgeW, h]
theorem edgeW_two {hi a b q : Int} (h : IntKind.i64.wrap (a + 1) = q) : edgeW hi [a, b] = (inR a 0 hi && inR b q hi) := by simp [edgeW, h]
theorem Compare_b {u v : Value} {xs ys : List Int} {c : Int} (h : cmpL xs ys = c) (w : World) (ha : SlI w u xs) (hb : SlI w v ys) : Calls Try.prog 177 #[u, v] w fun e w' => e = .returned (.int .i64 c) ∧ Below w.heap.size w w' :=
  (Compare_any w ha hb).mono fun e w' ⟨h1, h2⟩ => ⟨by rw [h1, h], by rw [h2]; exact Below.refl _ _⟩
set_option maxRecDepth 100000 in
set_option maxHeartbeats 4000000 in
theorem ImplValidGraph_any {v : Value} {es : List (List Int)} (n : Int) (w : World) (ha : SlII w v es) :
    Calls Try.prog 134 #[.agg #[.int .i64 n, v]] w fun e w' => e = .returned (.bool (graphOk n es)) ∧ Below w.heap.size w w' := by
  obtain ⟨a, ca, us, rfl, hca, hca', hul, hrd, hrow⟩ := ha
  have bx : Below w.heap.size w (w.alloc (.cells #[.int .i64 n, .slice a es.length ca] 28)) := (Below.refl _ _).alloc (Nat.le_refl _) _
  have HG := Lib.hid (fun W (h : Below w.heap.size w W) => And.intro (hrd.below h) (fun i hi u hu => (hrow i hi u hu).below h))
  have X := Lib.hid (CellsAt.new w [.int .i64 n, .slice a es.length ca] 28)
  have HU := Lib.hid hul
  obtain ⟨hi, hhi⟩ : ∃ hi, IntKind.i64.wrap (n - 1) = hi := ⟨_, rfl⟩
  have hG : graphOk n es = (inR n 1 5 && okN hi es es.length) := by unfold graphOk; rw [hhi]
  have HGO := Lib.hid hG
  generalize hq : inR n 1 5 = q at hG
  have HQ := Lib.hid hq
  have HHI := Lib.hid hhi
  unfold maxLen at hca'
  clear hG hq hul hrd hrow hhi
  go_enter Try.func134, Try.ntmps134
  go_wp2
  go_loopw [3, 4, 8] (fun _ _ i wr => ∃ k : Nat, k ≤ es.length ∧ i = .int .i64 k ∧ Hid (okN hi es k = true) ∧ Below (w.alloc (.cells #[.int .i64 n, .slice a es.length ca] 28)).heap.size (w.alloc (.cells #[.int .i64 n, .slice a es.length ca] 28)) wr) (fun _ _ i _ => es.length - (intOf i).toNat)
  case atStart => exact ⟨0, Nat.zero_le _, rfl, rfl, Below.refl _ _⟩
  case round =>
    obtain ⟨k, hk, rfl, hok, hbr⟩ := hrel
    have hbw := bx.trans (hbr.mono bx.size)
    have x1 := X.out.below hbr
    have c0 := x1.get 0 _ rfl
    have c1 := x1.get 1 _ rfl
    clear x1
    by_cases hlt : k < es.length
    · obtain ⟨x, b, off, rfl, gc, sx⟩ := SlII.row HU.out (HG.out _ hbw).1 (HG.out _ hbw).2 hlt
      have i1 : (k : Int) < (es.length : Int) := by omega
      have hes : stepW hi es k = (edgeW hi es[k] && (decide (k = 0) || lessL (es.getD (k - 1) []) es[k])) := by unfold stepW; rw [getD_at hlt]
      have HES := Lib.hid hes
      have SX := Lib.hid sx
      obtain ⟨ea, ec, rfl, _, _, erd⟩ := id sx
      clear hes
      by_cases hl : es[k].length = 2
      · have ht : ((es[k].length : Int) != 2) = false := by rw [hl]; rfl
        have j0 : (0 : Int) < (es[k].length : Int) := by rw [hl]; decide
        have j1 : (1 : Int) < (es[k].length : Int) := by rw [hl]; decide
        have jn0 : 0 < es[k].length := by omega
        have jn1 : 1 < es[k].length := by omega
        obtain ⟨eb, eo, rfl, g0⟩ := erd.one (i64s_get jn0)
        obtain ⟨eb', eo', he', g1⟩ := erd.one (i64s_get jn1)
        simp only [Option.some.injEq, Addr.mk.injEq] at he'
        obtain ⟨rfl, rfl, _⟩ := he'
        obtain ⟨e0, e1, he⟩ := len2 hl
        have he0 : es[k][0] = e0 := by simp [he]
        have he1 : es[k][1] = e1 := by simp [he]
        rw [he0, Nat.add_zero] at g0
        rw [he1] at g1
        have HE := Lib.hid he
        obtain ⟨q0, hq0⟩ : ∃ q0, IntKind.i64.wrap (e0 + 1) = q0 := ⟨_, rfl⟩
        have hW : edgeW hi es[k] = (inR e0 0 hi && inR e1 q0 hi) := by rw [he]; exact edgeW_two hq0
        generalize hp1 : inR e0 0 hi = p1 at hW
        generalize hp2 : inR e1 q0 hi = p2 at hW
        have HW := Lib.hid hW
        have HP1 := Lib.hid hp1
        have HP2 := Lib.hid hp2
        have HQ0 := Lib.hid hq0
        clear hW hp1 hp2 hq0 he he0 he1 erd sx hl
        have k0 := fun d os => cell_regrown c0 d os
        have k1 := fun d os => cell_regrown c1 d os
        have kg0 := fun d os => cell_regrown g0 d os
        have kg1 := fun d os => cell_regrown g1 d os
        have NO : stepW hi es k = false → graphOk n es = false := fun h => by rw [HGO.out, okN_false h hlt]; simp
        have HNO := Lib.hid NO
        have r0 := HHI.out
        have r1 := HQ0.out
        clear NO
        cases p1
        · go_wp2_with fail
          refine wp_region_quiet_below (by kernel_rfl) (by kernel_rfl) ?_
          repeat (first | go_big_quiet_skip | quiet_step (first | (with_reducible exact Calls.regrown_of (inRange_q HP1.out _)) | (with_reducible exact Calls.regrown_of (inRange_q HP2.out _)) | (with_reducible exact Calls.regrown_of (Compare_b HC.out _ (SP.out.below (below_regrown _ _ _)) (SX.out.below (below_regrown _ _ _))))))
          refine wpQuiet_nil ?_
          intro _ hw'
          obtain ⟨⟨dq, osq⟩, hw''⟩ := hw'
          subst hw''
          have bq0 := below_regrown wr dq osq
          generalize grow (redrawn wr dq) osq = wq at bq0 ⊢
          clear r0 r1 k0 k1 kg0 kg1
          go_wp2
          go_ret
          exact ⟨rb (HNO.out (by rw [HES.out, HW.out]; rfl)).symm, hbw.trans (bq0.mono hbw.size)⟩
        · cases p2
          · go_wp2_with fail
            refine wp_region_quiet_below (by kernel_rfl) (by kernel_rfl) ?_
            repeat (first | go_big_quiet_skip | quiet_step (first | (with_reducible exact Calls.regrown_of (inRange_q HP1.out _)) | (with_reducible exact Calls.regrown_of (inRange_q HP2.out _)) | (with_reducible exact Calls.regrown_of (Compare_b HC.out _ (SP.out.below (below_regrown _ _ _)) (SX.out.below (below_regrown _ _ _))))))
            refine wpQuiet_nil ?_
            intro _ hw'
            obtain ⟨⟨dq, osq⟩, hw''⟩ := hw'
            subst hw''
            have bq0 := below_regrown wr dq osq
            generalize grow (redrawn wr dq) osq = wq at bq0 ⊢
            clear r0 r1 k0 k1 kg0 kg1
            go_wp2
            go_ret
            exact ⟨rb (HNO.out (by rw [HES.out, HW.out]; rfl)).symm, hbw.trans (bq0.mono hbw.size)⟩
          · by_cases hk0 : k = 0
            · have hk0' : decide (0 < k) = false := by simp; omega
              have HK0 := Lib.hid hk0
              clear hk0
              go_wp2_with fail
              refine wp_region_quiet_below (by kernel_rfl) (by kernel_rfl) ?_
              repeat (first | go_big_quiet_skip | quiet_step (first | (with_reducible exact Calls.regrown_of (inRange_q HP1.out _)) | (with_reducible exact Calls.regrown_of (inRange_q HP2.out _)) | (with_reducible exact Calls.regrown_of (Compare_b HC.out _ (SP.out.below (below_regrown _ _ _)) (SX.out.below (below_regrown _ _ _))))))
              refine wpQuiet_nil ?_
              intro _ hw'
              obtain ⟨⟨dq, osq⟩, hw''⟩ := hw'
              subst hw''
              have bq0 := below_regrown wr dq osq
              generalize grow (redrawn wr dq) osq = wq at bq0 ⊢
              clear r0 r1 k0 k1 kg0 kg1 hk0'
              have hb2 := hbr.trans (bq0.mono hbr.size)
              go_wp2
              go_roundw
              case rel => exact ⟨k + 1, by omega, by go_num, by unfold Hid okN; rw [hok.out, HES.out, HW.out]; simp [HK0.out], hb2⟩
              case measure => simp [intOf]; omega
            · obtain ⟨m, hm⟩ : ∃ m, k = m + 1 := ⟨k - 1, by omega⟩
              have r2 : IntKind.i64.wrap ((k : Int) - 1) = (m : Int) := by rw [IntWalk.i64_in _ (by omega)]; omega
              have hkp : decide (0 < k) = true := by simp; omega
              have hml : m < es.length := by omega
              have i3 : (0 : Int) ≤ (m : Int) := by omega
              have i4 : (m : Int) < (es.length : Int) := by omega
              obtain ⟨x', b', off', he', gc', sx'⟩ := SlII.row HU.out (HG.out _ hbw).1 (HG.out _ hbw).2 hml
              simp only [Option.some.injEq, Addr.mk.injEq] at he'
              obtain ⟨rfl, rfl, _⟩ := he'
              obtain ⟨pa, pc, rfl, _⟩ := id sx'
              have SP := Lib.hid sx'
              have kp := fun d os => cell_regrown gc' d os
              have hst : stepW hi es k = lessL es[m] es[k] := by
                have e1 : k - 1 = m := by omega
                rw [HES.out, HW.out, e1, getD_at hml]
                simp [hk0]
              have hcl := cmpL_less es[m] es[k]
              generalize hc : cmpL es[m] es[k] = c at hcl
              generalize hl3 : lessL es[m] es[k] = l3 at hst hcl
              have HST := Lib.hid hst
              have HCL := Lib.hid hcl
              have HC := Lib.hid hc
              have HM := Lib.hid hm
              clear hst hcl hc hm gc' sx' hl3
              cases l3
              · have hc0 : 0 ≤ c := by have := HCL.out; simpa using this
                go_wp2_with fail
                refine wp_region_quiet_below (by kernel_rfl) (by kernel_rfl) ?_
                repeat (first | go_big_quiet_skip | quiet_step (first | (with_reducible exact Calls.regrown_of (inRange_q HP1.out _)) | (with_reducible exact Calls.regrown_of (inRange_q HP2.out _)) | (with_reducible exact Calls.regrown_of (Compare_b HC.out _ (SP.out.below (below_regrown _ _ _)) (SX.out.below (below_regrown _ _ _))))))
                refine wpQuiet_nil ?_
                intro _ hw'
                obtain ⟨⟨dq, osq⟩, hw''⟩ := hw'
                subst hw''
                have bq0 := below_regrown wr dq osq
                generalize grow (redrawn wr dq) osq = wq at bq0 ⊢
                clear r0 r1 r2 k0 k1 kg0 kg1 kp hkp
                go_wp2
                go_ret
                exact ⟨rb (HNO.out HST.out).symm, hbw.trans (bq0.mono hbw.size)⟩
              · have hc0 : c < 0 := by have := HCL.out; simpa using this
                go_wp2_with fail
                refine wp_region_quiet_below (by kernel_rfl) (by kernel_rfl) ?_
                repeat (first | go_big_quiet_skip | quiet_step (first | (with_reducible exact Calls.regrown_of (inRange_q HP1.out _)) | (with_reducible exact Calls.regrown_of (inRange_q HP2.out _)) | (with_reducible exact Calls.regrown_of (Compare_b HC.out _ (SP.out.below (below_regrown _ _ _)) (SX.out.below (below_regrown _ _ _))))))
                refine wpQuiet_nil ?_
                intro _ hw'
                obtain ⟨⟨dq, osq⟩, hw''⟩ := hw'
                subst hw''
                have bq0 := below_regrown wr dq osq
                generalize grow (redrawn wr dq) osq = wq at bq0 ⊢
                clear r0 r1 r2 k0 k1 kg0 kg1 kp hkp
                have hb2 := hbr.trans (bq0.mono hbr.size)
                go_wp2
                go_roundw
                case rel => exact ⟨k + 1, by omega, by go_num, by unfold Hid okN; rw [hok.out, HST.out]; rfl, hb2⟩
                case measure => simp [intOf]; omega
      · have ht : ((es[k].length : Int) != 2) = true := by simp; omega
        have hno := edgeW_no (hi := hi) hl
        have HNO := Lib.hid hno
        clear hno hl
        go_wp2_with fail
        refine wp_region_quiet_below (by kernel_rfl) (by kernel_rfl) ?_
        repeat (first | go_big_quiet_skip | quiet_step (first | (with_reducible exact Calls.regrown_of (inRange_q HP1.out _))))
        refine wpQuiet_nil ?_
        intro _ hw'
        obtain ⟨⟨dq, osq⟩, hw''⟩ := hw'
        subst hw''
        have bq0 := below_regrown wr dq osq
        generalize grow (redrawn wr dq) osq = wq at bq0 ⊢
        go_wp2
        go_ret
        exact ⟨rb (by rw [HGO.out, okN_false (by rw [HES.out, HNO.out]; rfl) hlt]; simp), (hbw.trans (bq0.mono hbw.size))⟩
    · obtain rfl : k = es.length := by omega
      go_wp2_with (go_at_call 85; refine (inRange_any _ _ _ _).mono ?_; rintro e w' ⟨rfl, rfl⟩)
      go_ret
      exact ⟨rb (by rw [HGO.out, hok.out]; simp), hbw⟩
end Go.Proofs.Ytpmabnohdabbdaa
namespace Go.Proofs.Ytpmabnohdabbdaa
open Go.RowKit Go.Sort
set_option maxHeartbeats 1000000 in
theorem IndexFuncCol_any {u : Value} {xs : List (List Int)} (cap0 : Value) (p : List Int → Bool) (w : World) (ha : SlII w u xs)
    (hf : ∀ W x u, Below w.heap.size w W → x ∈ xs → SlI W u x → Calls Try.prog 195 #[u, cap0] W fun e w' => e = .returned (.bool (p x)) ∧ Below W.heap.size W w') :
    Calls Try.prog 159 #[u, .func (.func 195) #[] #[cap0]] w fun e w' => e = .returned (.int .i64 (ixRow p xs 0)) ∧ Below w.heap.size w w' := by
  obtain ⟨a, ca, us, rfl, hca, hca', hul, hrd, hrow⟩ := ha
  have HU := Lib.hid hul
  have HR := Lib.hid hrow
  clear hul hrow
  unfold maxLen at hca'
  have HF := Lib.hid hf
  clear hf
  go_enter Try.func159, Try.ntmps159
  go_wp2
  go_loopw [5, 8] (fun _ i wr => ∃ k : Nat, k ≤ xs.length ∧ i = .int .i64 k ∧ Hid (ixRow p xs 0 = ixRow p (xs.drop k) k) ∧ Below w.heap.size w wr) (fun _ i _ => xs.length - (intOf i).toNat)
  case atStart => exact ⟨0, Nat.zero_le _, rfl, rfl, Below.refl _ _⟩
  case round =>
    obtain ⟨k, hk, rfl, hno, hbw⟩ := hrel
    by_cases hlt : k < xs.length
    · obtain ⟨x, b, off, rfl, gc, sx⟩ := SlII.row HU.out (hrd.below hbw) (fun i hi u hu => (HR.out i hi u hu).below hbw) hlt
      obtain ⟨xa, xc, rfl, _⟩ := id sx
      have i1 : (k : Int) < (xs.length : Int) := by omega
      have hst := ixRow_step (p := p) hlt
      have HS := Lib.hid hst
      clear hst
      generalize hp : p xs[k] = P
      have HP := Lib.hid hp
      clear hp
      cases P
      · go_wp2_with fail
        refine (HF.out _ xs[k] _ hbw (List.getElem_mem hlt) sx).mono ?_
        rintro e w2 ⟨rfl, b2⟩
        rw [HP.out]
        have bq := hbw.trans (b2.mono hbw.size)
        go_wp2
        go_roundw
        case rel => exact ⟨k + 1, by omega, by go_num, by unfold Hid at *; rw [hno, HS, HP]; rfl, bq⟩
        case measure => simp [intOf]; omega
      · go_wp2_with fail
        refine (HF.out _ xs[k] _ hbw (List.getElem_mem hlt) sx).mono ?_
        rintro e w2 ⟨rfl, b2⟩
        rw [HP.out]
        have bq := hbw.trans (b2.mono hbw.size)
        go_wp2
        go_ret
        exact ⟨ri (by rw [hno.out, HS.out, HP.out]; rfl), bq⟩
    · obtain rfl : k = xs.length := by omega
      go_wp2
      go_ret
      exact ⟨ri (by rw [hno.out]; simp [ixRow]), hbw⟩
set_option maxHeartbeats 400000 in
theorem ContainsFuncCol_any {u : Value} {xs : List (List Int)} (cap0 : Value) (p : List Int → Bool) (w : World) (ha : SlII w u xs)
    (hf : ∀ W x u, Below w.heap.size w W → x ∈ xs → SlI W u x → Calls Try.prog 195 #[u, cap0] W fun e w' => e = .returned (.bool (p x)) ∧ Below W.heap.size W w') :
    Calls Try.prog 194 #[u, .func (.func 195) #[] #[cap0]] w fun e w' => e = .returned (.bool (xs.any p)) ∧ Below w.heap.size w w' := by
  have hx := ixRow_any p xs 0
  obtain ⟨hb0, hb1⟩ := ixRow_bd p xs 0
  obtain ⟨a, ca, us, rfl, hca, hca', _⟩ := id ha
  unfold maxLen at hca'
  have HF := Lib.hid hf
  have HX := Lib.hid hx
  clear hf hx
  go_enter Try.func194, Try.ntmps194
  go_wp2_with fail
  refine (IndexFuncCol_any cap0 p _ ha HF.out).mono ?_
  rintro e w2 ⟨rfl, b2⟩
  go_wp2
  go_ret
  exact ⟨rb HX.out, b2⟩
end Go.Proofs.Ytpmabnohdabbdaa
namespace Go.Proofs.Ytpmabnohdabbdaa
open Go.RowKit Go.Sort
set_option maxHeartbeats 1000000 in
theorem IndexFuncAre_any {u : Value} {xs : List Int} (cap0 cap1 : Value) (p : Int → Bool) (w : World) (ha : SlI w u xs)
    (hf : ∀ W x, Below w.heap.size w W → x ∈ xs → Calls Try.prog 178 #[.int .i64 x, cap0, cap1] W fun e w' => e = .returned (.bool (p x)) ∧ Below W.heap.size W w') :
    Calls Try.prog 181 #[u, .func (.func 178) #[] #[cap0, cap1]] w fun e w' => e = .returned (.int .i64 (ixP p xs 0)) ∧ Below w.heap.size w w' := by
  obtain ⟨a, ca, rfl, hca, hca', ha⟩ := ha
  unfold maxLen at hca'
  have HF := Lib.hid hf
  clear hf
  go_enter Try.func181, Try.ntmps181
  go_wp2
  go_loopw [5, 8] (fun _ i wr => ∃ k : Nat, k ≤ xs.length ∧ i = .int .i64 k ∧ Hid (ixP p xs 0 = ixP p (xs.drop k) k) ∧ Below w.heap.size w wr) (fun _ i _ => xs.length - (intOf i).toNat)
  case atStart => exact ⟨0, Nat.zero_le _, rfl, rfl, Below.refl _ _⟩
  case round =>
    obtain ⟨k, hk, rfl, hno, hbw⟩ := hrel
    by_cases hlt : k < xs.length
    · obtain ⟨b, off, rfl, gc⟩ := (ha.below hbw).one (i64s_get hlt)
      have i1 : (k : Int) < (xs.length : Int) := by omega
      have hst := ixP_step (p := p) hlt
      have HS := Lib.hid hst
      clear hst
      generalize hp : p xs[k] = P
      have HP := Lib.hid hp
      clear hp
      cases P
      · go_wp2_with fail
        refine (HF.out _ xs[k] hbw (List.getElem_mem hlt)).mono ?_
        rintro e w2 ⟨rfl, b2⟩
        rw [HP.out]
        have bq := hbw.trans (b2.mono hbw.size)
        go_wp2
        go_roundw
        case rel => exact ⟨k + 1, by omega, by go_num, by unfold Hid at *; rw [hno, HS, HP]; rfl, bq⟩
        case measure => simp [intOf]; omega
      · go_wp2_with fail
        refine (HF.out _ xs[k] hbw (List.getElem_mem hlt)).mono ?_
        rintro e w2 ⟨rfl, b2⟩
        rw [HP.out]
        have bq := hbw.trans (b2.mono hbw.size)
        go_wp2
        go_ret
        exact ⟨ri (by rw [hno.out, HS.out, HP.out]; rfl), bq⟩
    · obtain rfl : k = xs.length := by omega
      go_wp2
      go_ret
      exact ⟨ri (by rw [hno.out]; simp [ixP]), hbw⟩
set_option maxHeartbeats 400000 in
theorem ContainsFuncAre_any {u : Value} {xs : List Int} (cap0 cap1 : Value) (p : Int → Bool) (w : World) (ha : SlI w u xs)
    (hf : ∀ W x, Below w.heap.size w W → x ∈ xs → Calls Try.prog 178 #[.int .i64 x, cap0, cap1] W fun e w' => e = .returned (.bool (p x)) ∧ Below W.heap.size W w') :
    Calls Try.prog 138 #[u, .func (.func 178) #[] #[cap0, cap1]] w fun e w' => e = .returned (.bool (xs.any p)) ∧ Below w.heap.size w w' := by
  have hx := ixP_any p xs 0
  obtain ⟨hb0, hb1⟩ := ixP_bd p xs 0
  obtain ⟨a, ca, rfl, hca, hca', _⟩ := id ha
  unfold maxLen at hca'
  have HF := Lib.hid hf
  have HX := Lib.hid hx
  clear hf hx
  go_enter Try.func138, Try.ntmps138
  go_wp2_with fail
  refine (IndexFuncAre_any cap0 cap1 p _ ha HF.out).mono ?_
  rintro e w2 ⟨rfl, b2⟩
  go_wp2
  go_ret
  exact ⟨rb HX.out, b2⟩
end Go.Proofs.Ytpmabnohdabbdaa
namespace Go.Proofs.Ytpmabnohdabbdaa
open Go.RowKit Go.Sort
end Go.Proofs.Ytpmabnohdabbdaa
namespace Go.Proofs.Ytpmabnohdabbdaa
open Go.RowKit

def findFrom : List (List Int) → List Int → Nat → Int
  | [], _, _ => -1
  | d :: ds, x, k => if d = x then (k : Int) else findFrom ds x (k + 1)
def findD (x : List Int) : Int := if inR x.length 1 3 = true then findFrom (decksL x.length x.length) x 0 else -1
def lastIx (l : List Int) (x : Int) : Nat → Int
  | 0 => -1
  | i + 1 => if l.getD i 0 = x then (i : Int) else lastIx l x i
def runsN (l : List Int) : Nat → Int
  | 0 => 1
  | k + 1 => if lastIx l ((k : Int) + 1) l.length < lastIx l k l.length then runsN l k + 1 else runsN l k
def ixFrom : List Int → Int → Nat → Int
  | [], _, _ => -1
  | y :: r, x, k => if x = y then (k : Int) else ixFrom r x (k + 1)
def runsM (l : List Int) : Nat → Int
  | 0 => 1
  | k + 1 => if ixFrom l ((k : Int) + 1) 0 < ixFrom l k 0 then runsM l k + 1 else runsM l k
theorem findFrom_ge : ∀ (D : List (List Int)) (x : List Int) (k : Nat), 0 ≤ findFrom D x k ↔ x ∈ D
  | [], x, k => by simp [findFrom]
  | d :: ds, x, k => by
    unfold findFrom
    by_cases h : d = x
    · rw [if_pos h]; simp [h]
    · rw [if_neg h, findFrom_ge ds x (k + 1)]; simp [Ne.symm h]
theorem findFrom_step {D : List (List Int)} {x : List Int} {k : Nat} (h : k < D.length) : findFrom (D.drop k) x k = if D[k] = x then (k : Int) else findFrom (D.drop (k + 1)) x (k + 1) := by
  rw [List.drop_eq_getElem_cons h]; rfl
theorem ixFrom_step {l : List Int} {x : Int} {k : Nat} (h : k < l.length) : ixFrom (l.drop k) x k = if x = l[k] then (k : Int) else ixFrom (l.drop (k + 1)) x (k + 1) := by
  rw [List.drop_eq_getElem_cons h]; rfl
theorem lastIx_bd (l : List Int) (x : Int) : ∀ i, -1 ≤ lastIx l x i ∧ lastIx l x i < i
  | 0 => by simp [lastIx]
  | i + 1 => by
    unfold lastIx
    have := lastIx_bd l x i
    split <;> omega
theorem ixFrom_bd : ∀ (l : List Int) (x : Int) (k : Nat), -1 ≤ ixFrom l x k ∧ ixFrom l x k < k + l.length
  | [], x, k => by simp [ixFrom] <;> omega
  | y :: r, x, k => by
    unfold ixFrom
    have := ixFrom_bd r x (k + 1)
    split
    · simp; omega
    · simp at this ⊢; omega
theorem runsN_bd (l : List Int) : ∀ k, 1 ≤ runsN l k ∧ runsN l k ≤ 1 + k
  | 0 => by simp [runsN]
  | k + 1 => by have := runsN_bd l k; unfold runsN; split <;> omega
theorem runsM_bd (l : List Int) : ∀ k, 1 ≤ runsM l k ∧ runsM l k ≤ 1 + k
  | 0 => by simp [runsM]
  | k + 1 => by have := runsM_bd l k; unfold runsM; split <;> omega
def ordTail (n : Int) : List Int → List Int → Bool
  | _, [] => true
  | s, x :: r => inR x 0 (n - 1) && (!decide (x ∈ s) && ordTail n (s ++ [x]) r)
def ordOk (n : Nat) (l : List Int) : Bool := ordTail n [] l && decide (l.length = n)
def seenL (s : List Int) (n : Nat) : List Bool := (List.range n).map fun (j : Nat) => decide ((j : Int) ∈ s)
theorem seenL_length (s : List Int) (n : Nat) : (seenL s n).length = n := by simp [seenL]
theorem seenL_get {s : List Int} {n j : Nat} (h : j < n) : (seenL s n)[j]'(by simp [seenL]; exact h) = decide ((j : Int) ∈ s) := by simp [seenL]
theorem seenL_nil (n : Nat) : seenL [] n = List.replicate n false := by
  apply List.ext_getElem <;> simp [seenL]
theorem seenL_set {s : List Int} {n j : Nat} : (seenL s n).set j true = seenL (s ++ [(j : Int)]) n := by
  apply List.ext_getElem
  · simp [seenL]
  · intro i h1 h2
    simp [seenL] at h1
    rw [List.getElem_set]
    simp [seenL]
    by_cases h : j = i
    · simp [h]
    · simp [h]; omega
theorem ordTail_step {n : Int} {l : List Int} {k : Nat} (h : k < l.length) : ordTail n (l.take k) (l.drop k) = (inR l[k] 0 (n - 1) && (!decide (l[k] ∈ l.take k) && ordTail n (l.take (k + 1)) (l.drop (k + 1)))) := by
  rw [List.drop_eq_getElem_cons h, List.take_succ_eq_append_getElem h]; rfl

set_option maxHeartbeats 1000000 in
theorem l07Find_any {u : Value} {xs : List Int} (w : World) (ha : SlI w u xs) :
    Calls Try.prog 84 #[u] w fun e w' => e = .returned (.int .i64 (findD xs)) ∧ Below w.heap.size w w' := by
  obtain ⟨a, ca, rfl, hca, hca', _⟩ := id ha
  unfold maxLen at hca'
  have HA := Lib.hid (fun W (h : Below w.heap.size w W) => ha.below h)
  clear ha
  generalize hin : inR xs.length 1 3 = I
  cases I
  · have hf : findD xs = -1 := by unfold findD; rw [hin]; rfl
    have HF := Lib.hid hf
    have HI := Lib.hid hin
    clear hf hin
    go_enter Try.func84, Try.ntmps84
    go_wp2_with (go_at_call 81; refine (l00In_any _ _ _ _).mono ?_; rintro e w' ⟨rfl, rfl⟩; rw [HI.out])
    go_ret
    exact ⟨ri HF.out.symm, Below.refl _ _⟩
  · have hf : findD xs = findFrom (decksL xs.length xs.length) xs 0 := by unfold findD; rw [hin]; rfl
    have hb := inR_iff.1 hin
    have hd := (decks_small (c := xs.length) (k := xs.length) (by omega) (by omega) (Nat.le_refl _)).1
    have hn1 : 1 ≤ xs.length := by omega
    have hn3 : xs.length ≤ 3 := by omega
    generalize hDD : decksL xs.length xs.length = D at hf hd
    have HD := Lib.hid hDD
    have HF := Lib.hid hf
    have HI := Lib.hid hin
    clear hf hin hDD hb
    go_enter Try.func84, Try.ntmps84
    go_wp2_with (go_at_call 81; refine (l00In_any _ _ _ _).mono ?_; rintro e w' ⟨rfl, rfl⟩; rw [HI.out])
    refine (l07Decks_any xs.length _ hn1 hn3).mono ?_
    rintro e w1 ⟨v1, rfl, o1, b1⟩
    rw [HD.out] at o1
    obtain ⟨pa, pc, pv, rfl, pl, pm, pvl, prd, prow⟩ := id o1.sl
    unfold maxLen at pm
    have HV := Lib.hid pvl
    have HR := Lib.hid prow
    clear o1 pvl prow
    go_wp2
    go_loopw [4] (fun i wr => ∃ k : Nat, k ≤ D.length ∧ i = .int .i64 k ∧ Hid (findD xs = findFrom (D.drop k) xs k) ∧ Below w1.heap.size w1 wr) (fun i _ => D.length - (intOf i).toNat)
    case atStart => exact ⟨0, Nat.zero_le _, rfl, HF.out, Below.refl _ _⟩
    case round =>
      obtain ⟨k, hk, rfl, hfr, hbr⟩ := hrel
      have hbw := b1.trans (hbr.mono b1.size)
      by_cases hlt : k < D.length
      · obtain ⟨x, bb, oo, rfl, hcell, hx⟩ := SlII.row HV.out (prd.below hbr) (fun i hi u hu => (HR.out i hi u hu).below hbr) hlt
        have hst := findFrom_step (x := xs) hlt
        have HS := Lib.hid hst
        have i1 : (k : Int) < (D.length : Int) := by omega
        generalize hdd : decide (D[k] = xs) = d
        have HDD := Lib.hid hdd
        clear hst hdd
        obtain ⟨xa, xc, rfl, _⟩ := id hx
        cases d
        · go_wp2_with (go_at_call 119; refine (l00Same_any _ hx (HA.out _ hbw)).mono ?_; rintro e w' ⟨rfl, b2⟩; rw [HDD.out])
          go_roundw
          case rel => exact ⟨k + 1, by omega, by go_num, by unfold Hid at *; rw [hfr, HS, if_neg (of_decide_eq_false HDD)], hbr.trans (b2.mono hbr.size)⟩
          case measure => simp [intOf]; omega
        · go_wp2_with (go_at_call 119; refine (l00Same_any _ hx (HA.out _ hbw)).mono ?_; rintro e w' ⟨rfl, b2⟩; rw [HDD.out])
          go_ret
          exact ⟨ri (by rw [hfr.out, HS.out, if_pos (of_decide_eq_true HDD.out)]), hbw.trans (b2.mono hbw.size)⟩
      · obtain rfl : k = D.length := by omega
        go_wp2
        go_ret
        exact ⟨ri (by rw [hfr.out]; simp [findFrom]), hbw⟩

def runsR (x : List Int) : Int × Int := if 0 ≤ findD x then (runsN x (x.length - 1), 0) else (0, 2)
def tupII (r : Int × Int) : Value := .tuple #[.int .i64 r.1, .int .i64 r.2]
theorem findD_len {x : List Int} (h : 0 ≤ findD x) : 1 ≤ x.length ∧ x.length ≤ 3 := by
  unfold findD at h
  split at h
  · rename_i hi; have := inR_iff.1 hi; omega
  · omega
set_option maxHeartbeats 400000 in
theorem Index_any {u : Value} {xs : List Int} (x : Int) (w : World) (ha : SlI w u xs) :
    Calls Try.prog 185 #[u, .int .i64 x] w fun e w' => e = .returned (.int .i64 (ixFrom xs x 0)) ∧ w = w' := by
  obtain ⟨a, ca, rfl, hca, hca', ha⟩ := ha
  unfold maxLen at hca'
  go_enter Try.func185, Try.ntmps185
  go_wp2
  go_loopw [5, 8] (fun _ i wr => ∃ k : Nat, k ≤ xs.length ∧ i = .int .i64 k ∧ Hid (ixFrom xs x 0 = ixFrom (xs.drop k) x k) ∧ wr = w) (fun _ i _ => xs.length - (intOf i).toNat)
  case atStart => exact ⟨0, Nat.zero_le _, rfl, rfl, rfl⟩
  case round =>
    obtain ⟨k, hk, rfl, hno, rfl⟩ := hrel
    by_cases hlt : k < xs.length
    · obtain ⟨b, off, rfl, gc⟩ := ha.one (i64s_get hlt)
      have i1 : (k : Int) < (xs.length : Int) := by omega
      have hst := ixFrom_step (x := x) hlt
      have HS := Lib.hid hst
      clear hst
      by_cases he : x = xs[k]
      · have HE := Lib.hid he
        have ht : (x == xs[k]) = true := by simpa using he
        clear he
        go_wp2
        go_ret
        exact ⟨ri (by rw [hno.out, HS.out, if_pos HE.out]), rfl⟩
      · have HE := Lib.hid he
        have ht : (x == xs[k]) = false := by simpa using he
        clear he
        go_wp2
        go_roundw
        case rel => exact ⟨k + 1, by omega, by go_num, by unfold Hid at *; rw [hno, HS, if_neg HE], trivial⟩
        case measure => simp [intOf]; omega
    · obtain rfl : k = xs.length := by omega
      go_wp2
      go_ret
      exact ⟨ri (by rw [hno.out]; simp [ixFrom]), rfl⟩

theorem FB_own_set {w : World} {base g n c : Nat} {xs : List Bool} (h : FB.Own w base (.slice (some ⟨g, 0, none⟩) n c) xs) (i : Nat) (x : Bool) :
    FB.Own (w.setCell ⟨g, i, none⟩ (.bool x)) base (.slice (some ⟨g, 0, none⟩) n c) (xs.set i x) := by
  obtain rfl := h.len_of
  have := (World.ownsRow.stored (base := base) h i (.bool x)).1
  unfold Flat.Own
  rw [List.length_set, FB_encs]
  rw [FB_encs] at this
  simpa [List.map_set] using this
theorem FB_own_cell {w : World} {base g n c : Nat} {xs : List Bool} (h : FB.Own w base (.slice (some ⟨g, 0, none⟩) n c) xs) {i : Nat} (hi : i < xs.length) : w.cell? ⟨g, i, none⟩ = some (.bool xs[i]) := by
  have := h.cell (i := i) (j := 0) hi (by decide)
  have e : i * FB.size + 0 = i := by show i * 1 + 0 = i; omega
  rw [e] at this
  exact this
def isDeckB (x : List Int) : Bool := inR x.length 1 3 && ordOk x.length x
/-- the same decks are right on both sides, and have the same runs -/
theorem deck_law : ∀ x : List Int, (0 ≤ findD x ↔ isDeckB x = true) ∧ (0 ≤ findD x → runsN x (x.length - 1) = runsM x (x.length - 1)) := by
  have all : ∀ n, n ≤ 3 → ∀ d ∈ decksL n n, runsN d (d.length - 1) = runsM d (d.length - 1) ∧ isDeckB d = decide (1 ≤ n) := by decide
  have key : ∀ x : List Int, isDeckB x = true → x ∈ decksL x.length x.length := by
    intro x hx
    unfold isDeckB at hx
    rw [Bool.and_eq_true] at hx
    have hl := inR_iff.1 hx.1
    have ho := hx.2
    unfold ordOk at ho
    rw [Bool.and_eq_true] at ho
    have ho := ho.1
    have c1 : ∀ y : Int, inR y 0 0 = true → y = 0 := by intro y h; have := inR_iff.1 h; omega
    have c2 : ∀ y : Int, inR y 0 1 = true → y = 0 ∨ y = 1 := by intro y h; have := inR_iff.1 h; omega
    have c3 : ∀ y : Int, inR y 0 2 = true → y = 0 ∨ y = 1 ∨ y = 2 := by intro y h; have := inR_iff.1 h; omega
    match x, hl, ho with
    | [a], _, ho =>
      simp [ordTail] at ho
      obtain rfl := c1 a ho
      decide
    | [a, b], _, ho =>
      simp [ordTail] at ho
      obtain ⟨h1, h2, h3⟩ := ho
      rcases c2 a h1 with rfl | rfl <;> rcases c2 b h2 with rfl | rfl <;> first | decide | (exact absurd rfl h3)
    | [a, b, c], _, ho =>
      simp [ordTail] at ho
      obtain ⟨h1, h2, h3, h4, h5, h6⟩ := ho
      rcases c3 a h1 with rfl | rfl | rfl <;> rcases c3 b h2 with rfl | rfl | rfl <;> rcases c3 c h4 with rfl | rfl | rfl <;> first | decide | (exact absurd rfl h3) | (exact absurd rfl h5) | (exact absurd rfl h6)
    | [], hl, _ => simp at hl
    | a :: b :: c :: d :: r, hl, _ => simp at hl; omega
  intro x
  have hf : 0 ≤ findD x ↔ (1 ≤ x.length ∧ x.length ≤ 3) ∧ x ∈ decksL x.length x.length := by
    unfold findD
    by_cases h : inR x.length 1 3 = true
    · rw [if_pos h, findFrom_ge]
      have := inR_iff.1 h
      constructor
      · intro h; exact ⟨by omega, h⟩
      · intro h; exact h.2
    · rw [if_neg h]
      constructor
      · intro h; omega
      · intro h2; exact absurd (inR_iff.2 (by omega)) h
  refine ⟨⟨fun h => ?_, fun h => ?_⟩, fun h => ?_⟩
  · have h2 := hf.1 h
    have := (all _ h2.1.2 _ h2.2).2
    rw [this]; simp; omega
  · have h2 := h
    unfold isDeckB at h2
    rw [Bool.and_eq_true] at h2
    have := inR_iff.1 h2.1
    exact hf.2 ⟨by omega, key x h⟩
  · have h2 := hf.1 h
    exact (all _ h2.1.2 _ h2.2).1
end Go.Proofs.Ytpmabnohdabbdaa
namespace Go.Proofs.Ytpmabnohdabbdaa
open Go.RowKit Go.Sort
set_option maxHeartbeats 1000000 in
theorem IndexFuncFree_any {u : Value} {xs : List Int} (cap0 cap1 : Value) (p : Int → Bool) (w : World) (ha : SlI w u xs)
    (hf : ∀ W x, Below w.heap.size w W → x ∈ xs → Calls Try.prog 140 #[.int .i64 x, cap0, cap1] W fun e w' => e = .returned (.bool (p x)) ∧ Below W.heap.size W w') :
    Calls Try.prog 181 #[u, .func (.func 140) #[] #[cap0, cap1]] w fun e w' => e = .returned (.int .i64 (ixP p xs 0)) ∧ Below w.heap.size w w' := by
  obtain ⟨a, ca, rfl, hca, hca', ha⟩ := ha
  unfold maxLen at hca'
  have HF := Lib.hid hf
  clear hf
  go_enter Try.func181, Try.ntmps181
  go_wp2
  go_loopw [5, 8] (fun _ i wr => ∃ k : Nat, k ≤ xs.length ∧ i = .int .i64 k ∧ Hid (ixP p xs 0 = ixP p (xs.drop k) k) ∧ Below w.heap.size w wr) (fun _ i _ => xs.length - (intOf i).toNat)
  case atStart => exact ⟨0, Nat.zero_le _, rfl, rfl, Below.refl _ _⟩
  case round =>
    obtain ⟨k, hk, rfl, hno, hbw⟩ := hrel
    by_cases hlt : k < xs.length
    · obtain ⟨b, off, rfl, gc⟩ := (ha.below hbw).one (i64s_get hlt)
      have i1 : (k : Int) < (xs.length : Int) := by omega
      have hst := ixP_step (p := p) hlt
      have HS := Lib.hid hst
      clear hst
      generalize hp : p xs[k] = P
      have HP := Lib.hid hp
      clear hp
      cases P
      · go_wp2_with fail
        refine (HF.out _ xs[k] hbw (List.getElem_mem hlt)).mono ?_
        rintro e w2 ⟨rfl, b2⟩
        rw [HP.out]
        have bq := hbw.trans (b2.mono hbw.size)
        go_wp2
        go_roundw
        case rel => exact ⟨k + 1, by omega, by go_num, by unfold Hid at *; rw [hno, HS, HP]; rfl, bq⟩
        case measure => simp [intOf]; omega
      · go_wp2_with fail
        refine (HF.out _ xs[k] hbw (List.getElem_mem hlt)).mono ?_
        rintro e w2 ⟨rfl, b2⟩
        rw [HP.out]
        have bq := hbw.trans (b2.mono hbw.size)
        go_wp2
        go_ret
        exact ⟨ri (by rw [hno.out, HS.out, HP.out]; rfl), bq⟩
    · obtain rfl : k = xs.length := by omega
      go_wp2
      go_ret
      exact ⟨ri (by rw [hno.out]; simp [ixP]), hbw⟩
set_option maxHeartbeats 400000 in
theorem ContainsFuncFree_any {u : Value} {xs : List Int} (cap0 cap1 : Value) (p : Int → Bool) (w : World) (ha : SlI w u xs)
    (hf : ∀ W x, Below w.heap.size w W → x ∈ xs → Calls Try.prog 140 #[.int .i64 x, cap0, cap1] W fun e w' => e = .returned (.bool (p x)) ∧ Below W.heap.size W w') :
    Calls Try.prog 138 #[u, .func (.func 140) #[] #[cap0, cap1]] w fun e w' => e = .returned (.bool (xs.any p)) ∧ Below w.heap.size w w' := by
  have hx := ixP_any p xs 0
  obtain ⟨hb0, hb1⟩ := ixP_bd p xs 0
  obtain ⟨a, ca, rfl, hca, hca', _⟩ := id ha
  unfold maxLen at hca'
  have HF := Lib.hid hf
  have HX := Lib.hid hx
  clear hf hx
  go_enter Try.func138, Try.ntmps138
  go_wp2_with fail
  refine (IndexFuncFree_any cap0 cap1 p _ ha HF.out).mono ?_
  rintro e w2 ⟨rfl, b2⟩
  go_wp2
  go_ret
  exact ⟨rb HX.out, b2⟩
end Go.Proofs.Ytpmabnohdabbdaa
namespace Go.Proofs.Ytpmabnohdabbdaa
open Go.RowKit Go.Sort
set_option maxHeartbeats 1000000 in
theorem IndexFuncDeck_any {u : Value} {xs : List (List Int)} (cap0 : Value) (p : List Int → Bool) (w : World) (ha : SlII w u xs)
    (hf : ∀ W x u, Below w.heap.size w W → x ∈ xs → SlI W u x → Calls Try.prog 160 #[u, cap0] W fun e w' => e = .returned (.bool (p x)) ∧ Below W.heap.size W w') :
    Calls Try.prog 159 #[u, .func (.func 160) #[] #[cap0]] w fun e w' => e = .returned (.int .i64 (ixRow p xs 0)) ∧ Below w.heap.size w w' := by
  obtain ⟨a, ca, us, rfl, hca, hca', hul, hrd, hrow⟩ := ha
  have HU := Lib.hid hul
  have HR := Lib.hid hrow
  clear hul hrow
  unfold maxLen at hca'
  have HF := Lib.hid hf
  clear hf
  go_enter Try.func159, Try.ntmps159
  go_wp2
  go_loopw [5, 8] (fun _ i wr => ∃ k : Nat, k ≤ xs.length ∧ i = .int .i64 k ∧ Hid (ixRow p xs 0 = ixRow p (xs.drop k) k) ∧ Below w.heap.size w wr) (fun _ i _ => xs.length - (intOf i).toNat)
  case atStart => exact ⟨0, Nat.zero_le _, rfl, rfl, Below.refl _ _⟩
  case round =>
    obtain ⟨k, hk, rfl, hno, hbw⟩ := hrel
    by_cases hlt : k < xs.length
    · obtain ⟨x, b, off, rfl, gc, sx⟩ := SlII.row HU.out (hrd.below hbw) (fun i hi u hu => (HR.out i hi u hu).below hbw) hlt
      obtain ⟨xa, xc, rfl, _⟩ := id sx
      have i1 : (k : Int) < (xs.length : Int) := by omega
      have hst := ixRow_step (p := p) hlt
      have HS := Lib.hid hst
      clear hst
      generalize hp : p xs[k] = P
      have HP := Lib.hid hp
      clear hp
      cases P
      · go_wp2_with fail
        refine (HF.out _ xs[k] _ hbw (List.getElem_mem hlt) sx).mono ?_
        rintro e w2 ⟨rfl, b2⟩
        rw [HP.out]
        have bq := hbw.trans (b2.mono hbw.size)
        go_wp2
        go_roundw
        case rel => exact ⟨k + 1, by omega, by go_num, by unfold Hid at *; rw [hno, HS, HP]; rfl, bq⟩
        case measure => simp [intOf]; omega
      · go_wp2_with fail
        refine (HF.out _ xs[k] _ hbw (List.getElem_mem hlt) sx).mono ?_
        rintro e w2 ⟨rfl, b2⟩
        rw [HP.out]
        have bq := hbw.trans (b2.mono hbw.size)
        go_wp2
        go_ret
        exact ⟨ri (by rw [hno.out, HS.out, HP.out]; rfl), bq⟩
    · obtain rfl : k = xs.length := by omega
      go_wp2
      go_ret
      exact ⟨ri (by rw [hno.out]; simp [ixRow]), hbw⟩
end Go.Proofs.Ytpmabnohdabbdaa
namespace Go.Proofs.Ytpmabnohdabbdaa
open Go.RowKit Go.Sort
end Go.Proofs.Ytpmabnohdabbdaa
namespace Go.Proofs.Ytpmabnohdabbdaa
open Go.RowKit Go.Sort
end Go.Proofs.Ytpmabnohdabbdaa
namespace Go.Proofs.Ytpmabnohdabbdaa
open Go.RowKit Go.Sort
end Go.Proofs.Ytpmabnohdabbdaa
namespace Go.Proofs.Ytpmabnohdabbdaa
open Go.RowKit Go.Sort
def rampII : Int → List (List Int) → List (List Int)
  | _, [] => []
  | m, r :: rs => ramp m r.length :: rampII (m + r.length) rs
theorem rampII_len : ∀ (m : Int) (xss : List (List Int)), (rampII m xss).length = xss.length
  | _, [] => rfl
  | m, r :: rs => by simp [rampII, rampII_len _ rs]
theorem rampII_at : ∀ {m : Int} {xss : List (List Int)} {k : Nat} (h : k < xss.length), (rampII m xss)[k]? = some (ramp (m + sumL (xss.take k)) xss[k].length)
  | m, r :: rs, 0, _ => by simp [rampII, sumL]
  | m, r :: rs, k + 1, h => by
    have h' : k < rs.length := by simpa using h
    have e := rampII_at (m := m + r.length) h'
    simp only [rampII, List.getElem?_cons_succ, List.getElem_cons_succ, List.take_succ_cons]
    rw [e]
    have : sumL (r :: rs.take k) = r.length + sumL (rs.take k) := by simp [sumL]
    rw [this]
    simp only [Option.some.injEq]
    congr 1
    omega
def mixII (m : Int) (xss : List (List Int)) (k : Nat) : List (List Int) := (rampII m xss).take k ++ xss.drop k
theorem mixII_zero {m : Int} {xss : List (List Int)} : mixII m xss 0 = xss := by simp [mixII]
theorem mixII_all {m : Int} {xss : List (List Int)} : mixII m xss xss.length = rampII m xss := by
  unfold mixII
  rw [List.drop_length, List.append_nil, List.take_of_length_le (by rw [rampII_len]; exact Nat.le_refl _)]
theorem mixII_get {m : Int} {xss : List (List Int)} {k i : Nat} (hk : k ≤ xss.length) : (mixII m xss k)[i]? = if i < k then (rampII m xss)[i]? else xss[i]? := by
  unfold mixII
  have hl : ((rampII m xss).take k).length = k := by rw [List.length_take, rampII_len]; omega
  by_cases h : i < k
  · rw [List.getElem?_append_left (by omega), if_pos h, List.getElem?_take_of_lt h]
  · rw [List.getElem?_append_right (by omega), if_neg h, hl, List.getElem?_drop]
    congr 1
    omega
theorem mixII_at {m : Int} {xss : List (List Int)} {k : Nat} (h : k < xss.length) : (mixII m xss k)[k]? = some xss[k] := by
  rw [mixII_get (by omega), if_neg (by omega), List.getElem?_eq_getElem h]
theorem mixII_new {m : Int} {xss : List (List Int)} {k : Nat} (h : k < xss.length) : (mixII m xss (k + 1))[k]? = some (ramp (m + sumL (xss.take k)) xss[k].length) := by
  rw [mixII_get (by omega), if_pos (by omega), rampII_at h]
theorem mixII_old {m : Int} {xss : List (List Int)} {k i : Nat} (h : i ≠ k) : (mixII m xss (k + 1))[i]? = (mixII m xss k)[i]? := by
  by_cases hk : k < xss.length
  · rw [mixII_get (by omega), mixII_get (by omega)]
    by_cases h1 : i < k
    · rw [if_pos h1, if_pos (by omega)]
    · rw [if_neg h1, if_neg (by omega)]
  · unfold mixII
    rw [List.drop_of_length_le (by omega), List.drop_of_length_le (by omega), List.take_of_length_le (by rw [rampII_len]; omega), List.take_of_length_le (by rw [rampII_len]; omega)]
set_option maxHeartbeats 1000000 in
theorem markInt64SS_held {v : Value} {xss : List (List Int)} (m : Int) (base B : Nat) (w : World) (hm0 : 0 ≤ m) (hm : m + sumL xss ≤ 1000000000000) (ha : OwnIIB w base B v xss) :
    Calls Try.prog 21 #[v, .int .i64 m] w fun e w' => e = .returned (.int .i64 (m + sumL xss)) ∧ OwnIIB w' base B v (rampII m xss) ∧ Mid base B w w' := by
  obtain ⟨vs, h1, h2, h3⟩ := ha
  obtain ⟨ad, c, rfl, hc1, hc2, _⟩ := ownsRow_rd h1
  unfold maxLen at hc2
  have HV := Lib.hid h2
  have HB := Lib.hid h3
  clear h2 h3
  go_enter Try.func21, Try.ntmps21
  go_wp2
  go_loopw [1, 5] (fun q i wr => ∃ (k : Nat) (Q : Int), k ≤ xss.length ∧ i = .int .i64 k ∧ q = .int .i64 Q ∧ Hid (Q = m + sumL (xss.take k)) ∧ 0 ≤ Q ∧ Q ≤ 1000000000000 ∧ wr.ownsRow base 59 1 (.slice ad xss.length c) xss.length vs ∧ Hid (∀ (i : Nat) (u : Value) (xs : List Int), vs[i]? = some u → (mixII m xss k)[i]? = some xs → OwnI wr base u xs) ∧ Mid base B w wr) (fun _ i _ => xss.length - (intOf i).toNat)
  case atStart => exact ⟨0, m, Nat.zero_le _, rfl, rfl, by simp [Hid, sumL], hm0, by omega, h1, Lib.hid (fun i u xs hu hx => HV.out.2.1 i u xs hu (by rw [mixII_zero] at hx; exact hx)), Mid.refl _ _ _⟩
  case round =>
    clear h1
    obtain ⟨k, Q, hk, rfl, rfl, hQ, hQ0, hQ1, hown, hrows, hmid⟩ := hrel
    by_cases hlt : k < xss.length
    · have hvl : k < vs.length := by rw [HV.out.1]; exact hlt
      obtain ⟨ad', c', he, _, _, hrd⟩ := ownsRow_rd hown
      simp at he
      obtain ⟨rfl, rfl⟩ := he
      obtain ⟨b, off, rfl, hcell⟩ := hrd.one (List.getElem?_eq_getElem hvl)
      have hu := hrows.out k vs[k] xss[k] (List.getElem?_eq_getElem hvl) (mixII_at hlt)
      have hle := sumL_le xss (k + 1)
      have hst := sumL_take hlt
      have i1 : (k : Int) < (xss.length : Int) := by omega
      have hbq : Q + xss[k].length ≤ 1000000000000 := by have := hQ.out; omega
      have HST := Lib.hid hst
      have hvk : vs[k]? = some vs[k] := List.getElem?_eq_getElem hvl
      generalize vs[k] = u at hcell hu hvk
      obtain ⟨ua, uc, rfl, _⟩ := id hu.sl
      have HVK := Lib.hid hvk
      clear hst hle hvk
      go_wp2_with fail
      refine (markInt64S_any Q base _ hQ0 hbq hu).mono ?_
      rintro e w2 ⟨rfl, o2, g2⟩
      have hrow : Mid base B wr w2 := Mid.of_grown g2 (fun g hg => ⟨(hu.lt g hg).1, HB.out k _ g HVK.out hg⟩)
      have own2 : w2.ownsRow base 59 1 (.slice (some ⟨b, off, none⟩) xss.length c) xss.length vs := World.ownsRow.kept hown g2 (by
        cases hb : (Value.slice (some ⟨b, off, none⟩) xss.length c).ownBlock with
        | none => exact .inl rfl
        | some g => exact .inr (fun e => hu.apart hown e.symm hb))
      have rows2 : Hid (∀ (i : Nat) (u : Value) (xs : List Int), vs[i]? = some u → (mixII m xss (k + 1))[i]? = some xs → OwnI w2 base u xs) := by
        intro i u' xs' hu' hx'
        by_cases hik : i = k
        · subst hik
          rw [mixII_new hlt, ← hQ.out] at hx'
          have e1 := HVK.out
          rw [e1] at hu'
          cases hu'
          cases hx'
          exact o2
        · rw [mixII_old hik] at hx'
          have h5 := hrows.out i u' xs' hu' hx'
          refine h5.kept g2 ?_
          cases hb : u'.ownBlock with
          | none => exact .inl rfl
          | some g => exact .inr (fun e => HV.out.2.2 i k u' _ g hik hu' HVK.out hb e.symm)
      have hm2 := hmid.trans hrow
      clear hown hrows hu o2 g2 hmid
      go_wp2
      go_roundw
      case rel => exact ⟨k + 1, Q + xss[k].length, by omega, by go_num, rfl, by have := hQ.out; have := HST.out; unfold Hid; omega, by omega, by omega, own2, rows2, hm2⟩
      case measure => simp [intOf]; omega
    · obtain rfl : k = xss.length := by omega
      go_wp2
      go_ret
      exact ⟨ri (by rw [hQ.out, List.take_length]), ⟨vs, by rw [rampII_len]; exact hown, ⟨by rw [rampII_len]; exact HV.out.1, fun i u xs hu hx => hrows.out i u xs hu (by rw [mixII_all]; exact hx), HV.out.2.2⟩, HB.out⟩, hmid⟩
set_option maxHeartbeats 1000000 in
theorem heldInt64SS_any {v : Value} {xss : List (List Int)} (m : Int) (w : World) (hm0 : 0 ≤ m) (hm : m + sumL xss ≤ 1000000000000) (ha : SlII w v (rampII m xss)) :
    Calls Try.prog 22 #[v, .int .i64 m] w fun e w' => e = .returned (.int .i64 (m + sumL xss)) ∧ Below w.heap.size w w' := by
  have hlen := rampII_len m xss
  obtain ⟨a, ca, us, rfl, hca, hca', hul, hrd, hrow⟩ := ha
  unfold maxLen at hca'
  have HG := Lib.hid (fun W (h : Below w.heap.size w W) => And.intro (hrd.below h) (fun i hi u hu => (hrow i hi u hu).below h))
  have HU := Lib.hid hul
  rw [hlen] at hca ⊢
  have HLEN := Lib.hid hlen
  clear hrd hrow hul hlen
  go_enter Try.func22, Try.ntmps22
  go_wp2
  go_loopw [1, 5] (fun q i wr => ∃ (k : Nat) (Q : Int), k ≤ xss.length ∧ i = .int .i64 k ∧ q = .int .i64 Q ∧ Hid (Q = m + sumL (xss.take k)) ∧ 0 ≤ Q ∧ Below w.heap.size w wr) (fun _ i _ => xss.length - (intOf i).toNat)
  case atStart => exact ⟨0, m, Nat.zero_le _, rfl, rfl, by simp [Hid, sumL], hm0, Below.refl _ _⟩
  case round =>
    obtain ⟨k, Q, hk, rfl, rfl, hQ, hQ0, hbr⟩ := hrel
    by_cases hlt : k < xss.length
    · have hlt2 : k < (rampII m xss).length := by rw [HLEN.out]; exact hlt
      obtain ⟨x, b, off, rfl, gc, sx⟩ := SlII.row HU.out (HG.out _ hbr).1 (HG.out _ hbr).2 hlt2
      have hrk : (rampII m xss)[k] = ramp Q xss[k].length := by
        have := rampII_at (m := m) hlt
        rw [List.getElem?_eq_getElem hlt2, Option.some.injEq] at this
        rw [this, hQ.out]
      rw [hrk] at sx
      have hle := sumL_le xss (k + 1)
      have hst := sumL_take hlt
      have i1 : (k : Int) < (xss.length : Int) := by omega
      have hbq : Q + xss[k].length ≤ 1000000000000 := by have := hQ.out; omega
      have hq0 : ¬ Q + xss[k].length < 0 := by omega
      have HST := Lib.hid hst
      obtain ⟨ua, uc, rfl, _⟩ := id sx
      clear hst hle hrk
      go_wp2_with fail
      refine (heldInt64S_any Q xss[k].length _ hQ0 hbq sx).mono ?_
      rintro e w2 ⟨rfl, b2⟩
      have hb2 := hbr.trans (b2.mono hbr.size)
      clear b2 sx gc
      go_wp2
      go_roundw
      case rel => exact ⟨k + 1, Q + xss[k].length, by omega, by go_num, rfl, by have := hQ.out; have := HST.out; unfold Hid; omega, by omega, hb2⟩
      case measure => simp [intOf]; omega
    · obtain rfl : k = xss.length := by omega
      go_wp2
      go_ret
      exact ⟨ri (by rw [hQ.out, List.take_length]), hbr⟩
theorem OwnIIB.fs {S : Nat → Prop} {w w' : World} {base B : Nat} {v : Value} {xss : List (List Int)} (h : OwnIIB w base B v xss) (hf : Fs S w w') (hS : ∀ k, S k → k < base) : OwnIIB w' base B v xss := by
  obtain ⟨vs, h1, h2, h3⟩ := h
  exact ⟨vs, ownsRow_fs h1 hf hS, ⟨h2.1, fun i u xs hu hx => ownsRow_fs (h2.2.1 i u xs hu hx) hf hS, h2.2.2⟩, h3⟩
end Go.Proofs.Ytpmabnohdabbdaa
