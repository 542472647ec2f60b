/-
  The program's RunScript. With it: The reference's RunScript. FnPlantScript: plain part: the text of deeds as a script, and what it answers. FnPlantScript: plain part: the whole script and its answers.
-/
import Derived.Test.YtofpelmplcoegaaGreatZRowFnPlantScript37
import Derived.Test.YtofpelmplcoegaaGreatZRowFnPlantScript40
import Derived.Test.YtofpelmplcoegaaGreatZRowFnPlantScript1
import Derived.Deep.DeepCutAuto
import Derived.Test.YtofpelmplcoegaaGreatZRowFnPlantScript23
import Derived.Test.YtofpelmplcoegaaGreatZRowFnPlantScript31
set_option linter.unusedVariables false
set_option linter.unusedSimpArgs false
namespace Go.Proofs.YtofpelmplcoegaaGreat
open Go.RowKit Go.Sort

set_option maxRecDepth 100000 in
set_option maxHeartbeats 4000000 in
theorem RnAnswer_any {b sb n sm wk : Nat} {B : Nat → Prop} {S : PS} {vl vr ve vh vw vo : Value} (x : ByteArray) (w : World) (P : RunIs w b sb B S vl vr ve vh vw vo) (I : PInv n sm wk S) (hn : n ≤ 6) (h8 : sm ≤ 8) :
    Calls Tryz.prog 68 #[.pointer (some ⟨b, 0, none⟩), .string x] w fun e w' => e = .returned (.string (ansB S x)) ∧ Below w.heap.size w w' := by
  obtain ⟨i1, i2⟩ := I.In64s hn
  obtain ⟨o1, o2, o3, o4⟩ := I.out8 h8
  have KO := Lib.hid (l09List_any w P.oo.sl (by omega) (fun y hy => by have := I.outB y hy; omega))
  have KL := Lib.hid (l09List_any w P.ol.sl (by omega) (fun y hy => by have := I.desk.ok.2.2.1 y hy; omega))
  obtain ⟨⟨q0, q1, q2, q3, q4⟩, q5, q6, q7, q8⟩ := P.get
  obtain ⟨ea, ec, rfl, _, _⟩ := P.oe.shape
  clear I i1 i2 P
  by_cases h1 : x = handedB
  · subst h1
    have HF := Lib.hid (show ansB S handedB = listB S.out from if_pos rfl)
    clear q1 q2 q3 q4 q5 q6 q7
    unfold handedB
    go_enter Tryz.func68, Tryz.ntmps68
    go_wp2_with fail
    refine KO.out.mono ?_
    rintro e w1 ⟨rfl, b1⟩
    go_wp2
    go_ret
    exact ⟨rs HF.out.symm, b1⟩
  · have t1 := beqF h1
    by_cases h2 : x = levelsB
    · subst h2
      have HF := Lib.hid (show ansB S levelsB = listB S.l by unfold ansB; rw [if_neg h1, if_pos rfl])
      clear q2 q3 q4 q5 q6 q7 q8 t1 h1
      unfold levelsB
      go_enter Tryz.func68, Tryz.ntmps68
      go_wp2_with fail
      refine KL.out.mono ?_
      rintro e w1 ⟨rfl, b1⟩
      go_wp2
      go_ret
      exact ⟨rs HF.out.symm, b1⟩
    · have t2 := beqF h2
      by_cases h3 : x = journalB
      · subst h3
        have HF := Lib.hid (show ansB S journalB = decB S.recs.length ++ spB ++ decB S.sy by unfold ansB; rw [if_neg h1, if_neg h2, if_pos rfl])
        have HD := Lib.hid (show ∀ (k : Nat) (W : World), k ≤ 72 → Calls Tryz.prog 25 #[.int .i64 k] W fun e w' => e = .returned (.string (decB k)) ∧ Below W.heap.size W w' from fun k W hk => Decimal_any 17 k W (by omega) (by decide))
        have z1 := decB_size_le (k := 1) (n := S.recs.length) (by omega)
        have z2 := decB_size_le (k := 1) (n := S.sy) (by omega)
        have u1 : ¬ 9223372036854775807 < (decB S.recs.length).size + 1 := by omega
        have u2 : ¬ 9223372036854775807 < (decB S.recs.length).size + 1 + (decB S.sy).size := by omega
        have kq4 := fun d os => cell_regrown q4 d os
        have kq5 := fun d os => cell_regrown q5 d os
        clear q0 q1 q2 q3 q4 q5 q6 q7 q8 t1 h1 t2 h2
        unfold journalB
        go_enter Tryz.func68, Tryz.ntmps68
        go_wp2_with fail
        refine wp_region_quiet_below (by kernel_rfl) (by kernel_rfl) ?_
        repeat (first | go_big_quiet_skip | quiet_step (exact Calls.regrown_of (HD.out _ _ (by omega))))
        refine wpQuiet_nil ?_
        intro _ hw'
        obtain ⟨⟨dq, osq⟩, hw''⟩ := hw'
        subst hw''
        have bq := below_regrown w dq osq
        go_wp2
        go_ret
        exact ⟨rs HF.out.symm, bq⟩
      · have t3 := beqF h3
        have HF := Lib.hid (show ansB S x = whatB by unfold ansB; rw [if_neg h1, if_neg h2, if_neg h3])
        clear q0 q1 q2 q3 q4 q5 q6 q7 q8 h1 h2 h3
        rw [show handedB.toList = [104, 97, 110, 100, 101, 100] from by kernel_rfl] at t1
        rw [show levelsB.toList = [108, 101, 118, 101, 108, 115] from by kernel_rfl] at t2
        rw [show journalB.toList = [106, 111, 117, 114, 110, 97, 108] from by kernel_rfl] at t3
        go_enter Tryz.func68, Tryz.ntmps68
        go_wp2
        go_ret
        exact ⟨rs HF.out.symm, Below.refl _ _⟩
theorem linesB_two {text : ByteArray} {L : List ByteArray} {m : Nat} (hL : cuts text 10 = L) (hm : L.length = m + 1) : linesB text = if L.getD m ⟨#[]⟩ = ⟨#[]⟩ then L.take m else L := by
  unfold linesB
  rw [hL]
  have e : L.length - 1 = m := by omega
  rw [e]
theorem isEmptyF {y : ByteArray} (h : ¬ y = ⟨#[]⟩) : y.toList.isEmpty = false := by
  have h1 := beqF h
  rw [show (⟨#[]⟩ : ByteArray).toList = [] from by kernel_rfl] at h1
  cases hy : y.toList with
  | nil => rw [hy] at h1; cases h1
  | cons a r => rfl
theorem isEmptyT {y : ByteArray} (h : y = ⟨#[]⟩) : y.toList.isEmpty = true := by
  subst h; kernel_rfl
theorem getD_at {L : List ByteArray} {m : Nat} (h : m < L.length) : L[m] = L.getD m ⟨#[]⟩ := by
  rw [List.getD_eq_getElem?_getD, List.getElem?_eq_getElem h]; rfl
theorem lineS_bad {t : Int} {xss : List (List Int)} {bs : Int} {sm wk : Nat} {S : PS} {x : ByteArray} (h : ¬ (deedR x).2.2 = 0) : lineS t xss bs sm wk x S = (ansB S x, S) := if_neg h
theorem lineS_do {t : Int} {xss : List (List Int)} {bs : Int} {sm wk : Nat} {S : PS} {x : ByteArray} {k a : Int} (h : deedR x = (k, a, 0)) : lineS t xss bs sm wk x S = (errB (doS t xss bs sm wk (k, a) S).1, (doS t xss bs sm wk (k, a) S).2) := by
  unfold lineS
  rw [if_pos (by rw [h]), h]

set_option maxRecDepth 100000 in
set_option maxHeartbeats 8000000 in
theorem SpecRunScript_any {u : Value} {xss : List (List Int)} (n t bs sm wk : Int) (text : ByteArray) (w : World) (ha : SlII w u xss) (ht : text.size ≤ 1048576) :
    Calls Tryz.prog 24 #[.agg #[.int .i64 n, .int .i64 t, u, .int .i64 bs, .int .i64 sm, .int .i64 wk], .string text] w fun e w' => e = .returned (.tuple #[.string (runSR n t xss bs sm wk text).1, .int .i64 (runSR n t xss bs sm wk text).2]) ∧ Below w.heap.size w w' := by
  have bx : Below w.heap.size w (w.alloc (svObj n t u bs sm wk)) := (Below.refl _ _).alloc (Nat.le_refl _) _
  have KV := Lib.hid (fun W (h : Below (w.alloc (svObj n t u bs sm wk)).heap.size (w.alloc (svObj n t u bs sm wk)) W) => (svBox w n t u bs sm wk).below h)
  have HA := Lib.hid (fun W (h : Below w.heap.size w W) => ha.below h)
  have K := Lib.hid (l09Ok_any w.heap.size 0 n t bs sm wk _ (svBox w n t u bs sm wk) (ha.below bx))
  obtain ⟨a, ca, us, rfl, _⟩ := id ha
  generalize hv : serviceOk n t xss bs sm wk = V at K
  have HVV := Lib.hid hv
  cases V
  · have HF := Lib.hid (show runSR n t xss bs sm wk text = (⟨#[]⟩, 1) by unfold runSR; rw [hv]; rfl)
    clear hv ha
    go_enter Tryz.func24, Tryz.ntmps24
    go_wp2_with fail
    refine K.out.mono ?_
    rintro e w1 ⟨rfl, b1⟩
    go_wp2
    refine bodyPost_ret (v := .tuple #[.string ⟨#[]⟩, .int .i64 1]) (by simp [results, Tryz.results24, go_sem]) rfl ?_
    exact ⟨by rw [HF.out], bx.trans (b1.mono bx.size)⟩
  · obtain ⟨n', sm', wk', rfl, rfl, rfl, hs, hwk, hn6⟩ := servOk_nat hv
    have hch := (serviceOk_parts hv).1
    have hcl := cuts_lens text 10
    have hc1 := cuts_len text 10
    have hcs := hcl.2
    have hcl1 := hcl.1
    have hlt2 := fun (L : List ByteArray) (m : Nat) (h1 : cuts text 10 = L) (h2 : L.length = m + 1) => linesB_two h1 h2
    generalize hL : cuts text 10 = L at hc1 hcs hcl1 hlt2
    have HL := Lib.hid hL
    obtain ⟨m, hm⟩ : ∃ m, L.length = m + 1 := ⟨L.length - 1, by omega⟩
    have hll := hlt2 L m rfl hm
    obtain ⟨LL, hLL⟩ : ∃ LL, LL = linesB text := ⟨_, rfl⟩
    rw [← hLL] at hll
    have HSZ := Lib.hid (show ∀ y ∈ LL, y.size ≤ 1048576 from fun y hy => by
      have h1 : y ∈ L := by
        rw [hll] at hy
        split at hy
        · exact List.mem_of_mem_take hy
        · exact hy
      have := hcs y h1
      omega)
    have hm1 : m ≤ 1048576 := by omega
    have HF := Lib.hid (show runSR n' t xss bs sm' wk' text = if 20000 < text.size ∨ 120 < LL.length then (⟨#[]⟩, 2) else (scrS t xss bs sm' wk' LL ⟨#[]⟩ (newS sm' wk'), 0) by
      unfold runSR
      rw [if_pos hv, ← hLL, Int.toNat_natCast, Int.toNat_natCast])
    have HLL := Lib.hid hll
    have HM := Lib.hid hm
    have HOK := Lib.hid hv
    have HCH := Lib.hid hch
    clear hv ha hcl hcs hcl1 hL hc1 hll hm hch hLL hlt2
    go_enter Tryz.func24, Tryz.ntmps24
    go_wp2_with fail
    refine K.out.mono ?_
    rintro e w1 ⟨rfl, b1⟩
    have B1 := Lib.hid (bx.trans (b1.mono bx.size))
    have V1 := Lib.hid (KV.out w1 b1)
    clear bx b1 K KV
    go_wp2_with fail
    refine (l01Words_any text 10 _ ht).mono ?_
    rintro e w2 ⟨v2, rfl, o2, b2⟩
    rw [HL.out] at o2
    have B2 := Lib.hid (B1.out.trans (b2.mono B1.out.size))
    have V2 := Lib.hid (V1.out.below b2)
    obtain ⟨la, lc, rfl, lm1, lm2, _⟩ := id o2.sl
    unfold maxLen at lm2
    have hmm := HM.out
    have o2s := o2.sl
    obtain ⟨lb, lo, rfl, _, gl⟩ := FS_get o2s (i := m) (by omega)
    rw [getD_at (by omega)] at gl
    obtain ⟨y, hy⟩ : ∃ y, y = L.getD m ⟨#[]⟩ := ⟨_, rfl⟩
    have hl := HLL.out
    rw [← hy] at gl hl
    have HLL := Lib.hid hl
    rw [hmm] at lm1 o2s ⊢
    have HO := Lib.hid o2s
    clear o2 hmm b2 o2s hy hl
    go_upto_if 24 with (fail)
    go_cut [6] (fun v wc => v = .slice (some ⟨lb, lo, none⟩) LL.length lc ∧ wc = w2 ∧ Hid (FStr.Sl w2 (.slice (some ⟨lb, lo, none⟩) LL.length lc) LL))
    case first =>
      have hl := HLL.out
      by_cases he : y = ⟨#[]⟩
      · rw [if_pos he] at hl
        have t1 := isEmptyT he
        have hlen : LL.length = m := by rw [hl]; have := HM.out; simp; omega
        have HS := Lib.hid (show FStr.Sl w2 (.slice (some ⟨lb, lo, none⟩) LL.length lc) LL by rw [hlen, hl]; exact Flat.Sl.take' HO.out (by have := HM.out; omega))
        have HLEN := Lib.hid hlen
        clear hl he hlen
        go_wp2_with fail
        · go_meet
          case rel => exact ⟨by rw [HLEN.out], rfl, HS⟩
        · exact absurd (t1.symm.trans ‹y.toList.isEmpty = false›) (by decide)
      · rw [if_neg he] at hl
        have t1 := isEmptyF he
        have hlen : LL.length = m + 1 := by rw [hl]; exact HM.out
        have HS := Lib.hid (show FStr.Sl w2 (.slice (some ⟨lb, lo, none⟩) LL.length lc) LL by rw [hlen, hl]; exact HO.out)
        have HLEN := Lib.hid hlen
        clear hl he hlen
        go_wp2_with fail
        · exact absurd (t1.symm.trans ‹y.toList.isEmpty = true›) (by decide)
        · go_meet
          case rel => exact ⟨by rw [HLEN.out], rfl, HS⟩
    case rest =>
      obtain ⟨rfl, rfl, HSL⟩ := hcut
      have HLLB := HLL
      have HSW := Lib.hid (fun W (h : Below wc.heap.size wc W) => HSL.out.below h)
      have hlc := (HSL.out.len_of).2
      clear gl HO HLL HM HSL HL
      by_cases h2 : 20000 < text.size ∨ 120 < LL.length
      · have HF := Lib.hid (HF.out.trans (if_pos h2))
        by_cases h3 : 20000 < text.size
        · have i1 : (20000 : Int) < (text.size : Int) := by omega
          go_wp2
          refine bodyPost_ret (v := .tuple #[.string ⟨#[]⟩, .int .i64 2]) (by simp [results, Tryz.results24, go_sem]) rfl ?_
          exact ⟨by rw [HF.out], B2.out⟩
        · have i1 : (text.size : Int) ≤ 20000 := by omega
          have i2 : (120 : Int) < (LL.length : Int) := by omega
          go_wp2
          refine bodyPost_ret (v := .tuple #[.string ⟨#[]⟩, .int .i64 2]) (by simp [results, Tryz.results24, go_sem]) rfl ?_
          exact ⟨by rw [HF.out], B2.out⟩
      · have HF := Lib.hid (HF.out.trans (if_neg h2))
        have i1 : (text.size : Int) ≤ 20000 := by omega
        have i2 : (LL.length : Int) ≤ 120 := by omega
        have hl120 : LL.length ≤ 120 := by omega
        have HV := Lib.hid (show SvF wc.heap.size wc w.heap.size n' t (.slice a xss.length ca) xss bs sm' wk' from ⟨Nat.le_refl _, fun W h => ⟨V2.out.below h, HA.out W (B2.out.trans (h.mono B2.out.size))⟩⟩)
        clear h2
        go_wp2_with fail
        refine (l09Begin_any wc V2.out hs hwk).mono ?_
        rintro e w3 ⟨rfl, ⟨vl, vr, ve, vh, vw, vo, P3⟩, b3⟩
        have P3 := Lib.hid P3
        have B3 := Lib.hid b3
        clear b3
        go_wp2
        go_loopg [8, 9, 10, 11, 12, 13] LL.length (fun f o i _ _ _ _ wr => ∃ (k : Nat) (acc : ByteArray) (S : PS), (k ≤ LL.length ∧ f = LL.length - k) ∧ i = .int .i64 k ∧ o = .string acc ∧ acc.size ≤ 300 * k ∧ Hid (scrS t xss bs sm' wk' LL ⟨#[]⟩ (newS sm' wk') = scrS t xss bs sm' wk' (LL.drop k) acc S) ∧ Hid (PInv n' sm' wk' S) ∧ (∃ vl vr ve vh vw vo, RunIs wr wc.heap.size w.heap.size (fun g => wc.heap.size ≤ g) S vl vr ve vh vw vo) ∧ Below wc.heap.size wc wr)
        case atStart => exact ⟨0, ⟨#[]⟩, newS sm' wk', ⟨Nat.zero_le _, rfl⟩, rfl, rfl, Nat.le_refl _, rfl, PInv.new hs.1, ⟨_, _, _, _, _, _, P3.out⟩, B3.out⟩
        case round =>
          obtain ⟨k, acc, S, ⟨hk, rfl⟩, rfl, rfl, hsz, hj, hI, ⟨vl, vr, ve, vh, vw, vo, P⟩, hb⟩ := hrel
          have HB := Lib.hid hb
          by_cases hlt : k < LL.length
          · obtain ⟨xb, xo, hxe, _, gc⟩ := FS_get (HSW.out _ hb) hlt
            simp only [Option.some.injEq, Addr.mk.injEq] at hxe
            obtain ⟨rfl, rfl, _⟩ := hxe
            have j1 : (k : Int) < (LL.length : Int) := by omega
            have hxs := HSZ.out _ (List.getElem_mem hlt)
            have hst := scrS_step (t := t) (xss := xss) (bs := bs) (sm := sm') (wk := wk') hlt acc S
            generalize LL[k] = x at gc hxs hst
            have hls := lineS_size (t := t) (xss := xss) (bs := bs) hI.out hn6 hs.2 x
            have hli := lineS_inv (t := t) (xss := xss) (bs := bs) hI.out HCH.out hs.1 x
            have HST := Lib.hid hst
            have HLS := Lib.hid hls
            have HLI := Lib.hid hli
            have HP := Lib.hid P
            have KR := Lib.hid (fun W => SpecReadDeed_any x W hxs)
            have hbad := fun h => lineS_bad (t := t) (xss := xss) (bs := bs) (sm := sm') (wk := wk') (S := S) (x := x) h
            have hdo := fun k a h => lineS_do (t := t) (xss := xss) (bs := bs) (sm := sm') (wk := wk') (S := S) (x := x) (k := k) (a := a) h
            have hok := deedR_ok x
            have HGC := Lib.hid (fun W (h : Below wr.heap.size wr W) => (h.cell (p := ⟨lb, lo + k, none⟩) (cell_lt gc)).trans gc)
            generalize deedR x = R at KR hbad hdo hok
            obtain ⟨dk, da, dc⟩ := R
            dsimp only at hbad hok
            have HBAD := Lib.hid hbad
            have HDO := Lib.hid hdo
            have HOKD := Lib.hid hok
            unfold tupD at KR
            dsimp only at KR
            have hzd : lb < wr.heap.size := cell_lt gc
            clear hst hls hli P hbad hdo hok hb
            go_wp2_with fail
            refine (KR.out _).mono ?_
            rintro e w4 ⟨rfl, b4⟩
            have HP4 := Lib.hid (HP.out.below b4)
            have HB4 := Lib.hid (HB.out.trans (b4.mono HB.out.size))
            have gc4 := HGC.out w4 b4
            have bA : Below w4.heap.size w4 (w4.alloc (.cells #[.int .i64 dk, .int .i64 da] 59)) := (Below.refl _ _).alloc (Nat.le_refl _) _
            obtain ⟨W5, hW5⟩ : ∃ W5, W5 = w4.alloc (.cells #[.int .i64 dk, .int .i64 da] 59) := ⟨_, rfl⟩
            have KD := CellsAt.new w4 [.int .i64 dk, .int .i64 da] 59
            have KD : CellsAt W5 w4.heap.size [.int .i64 dk, .int .i64 da] := by rw [hW5]; exact KD
            rw [← hW5] at bA
            have HP5 := Lib.hid (HP4.out.below bA)
            have HB5 := Lib.hid (HB4.out.trans (bA.mono HB4.out.size))
            have gc5 := (bA.cell (p := ⟨lb, lo + k, none⟩) (cell_lt gc4)).trans gc4
            have d0 := KD.get 0 _ rfl
            have d1 := KD.get 1 _ rfl
            have HW5 := Lib.hid hW5.symm
            by_cases h0 : dc = 0
            · subst h0
              have hokd := HOKD.out rfl
              have hd := HDO.out dk da rfl
              have HD := Lib.hid (RnDo_any W5 HP5.out (HV.out.step HB5.out) (fun g hg => hg) hI.out HOK.out dk da hokd)
              have hcode := doS_code t xss bs sm' wk' (dk, da) S
              generalize hR : doS t xss bs sm' wk' (dk, da) S = R at HD hd hcode
              obtain ⟨c, Sn⟩ := R
              dsimp only at hd hcode
              have HDD := Lib.hid hd
              have HCC := Lib.hid hcode
              clear hR hd hcode hW5 KD bA hokd b4 gc gc4
              go_wp2_with fail
              rw [HW5.out]
              go_wp2_with fail
              refine HD.out.mono ?_
              intro e w6 h
              obtain ⟨rfl, ⟨vl', vr', ve', vh', vw', vo', P6⟩, F6⟩ := h
              have hb6 : Below wc.heap.size wc w6 := HB5.out.trans (F6.below HB5.out.size (fun g hg => hg))
              have P6 := Lib.hid (P6.mono (B' := fun g => wc.heap.size ≤ g) (fun g hg => hg.elim (fun h => h) (fun h => Nat.le_trans HB5.out.size h)))
              have HB6 := Lib.hid hb6
              have HJ2 := Lib.hid (hj.out.trans HST.out)
              rw [HDD.out] at HJ2 HLI HLS
              clear d0 d1 gc5 F6 hb6
              by_cases hc : c = 0
              · subst hc
                have hE : errB 0 = ⟨#[111, 107]⟩ := rfl
                have HJ3 := Lib.hid HJ2.out
                rw [hE] at HJ3
                have z1 : ¬ 9223372036854775807 < acc.size + (2 + 1) := by omega
                have hns : (acc ++ (⟨#[111, 107]⟩ ++ ⟨#[10]⟩)).size = acc.size + 3 := by rw [ByteArray.size_append]; rfl
                clear hE
                go_wp2
                go_roundg (LL.length - (k + 1))
                case measure => omega
                case rel => exact ⟨k + 1, _, Sn, ⟨by omega, rfl⟩, by go_num, rfl, by rw [hns]; omega, HJ3, HLI.out, ⟨_, _, _, _, _, _, P6.out⟩, HB6.out⟩
              · have hE : errB c = ⟨#[101, 114, 114, 111, 114, 32]⟩ ++ codeB c := if_neg hc
                have HJ3 := Lib.hid HJ2.out
                rw [hE] at HJ3
                have t6 : (c != 0) = true := by simp [hc]
                have hcs := codeB_size c
                have z0 : ¬ 9223372036854775807 < 6 + (codeB c).size := by omega
                have z1 : ¬ 9223372036854775807 < 6 + (codeB c).size + 1 := by omega
                have z2 : ¬ 9223372036854775807 < acc.size + (6 + (codeB c).size + 1) := by omega
                have HCN := Lib.hid (show c = 2 ∨ c = 3 ∨ c = 4 by have := HCC.out; omega)
                have hns : (acc ++ (⟨#[101, 114, 114, 111, 114, 32]⟩ ++ codeB c ++ ⟨#[10]⟩)).size = acc.size + (6 + (codeB c).size + 1) := by simp only [ByteArray.size_append]; rfl
                clear hE hc
                go_wp2_with fail
                refine (SpecCodeName_any c _ HCN.out).mono ?_
                rintro e w7 ⟨rfl, b7⟩
                have P7 := Lib.hid (P6.out.below b7)
                have HB7 := Lib.hid (HB6.out.trans (b7.mono HB6.out.size))
                clear b7
                go_wp2
                go_roundg (LL.length - (k + 1))
                case measure => omega
                case rel => exact ⟨k + 1, _, Sn, ⟨by omega, rfl⟩, by go_num, rfl, by rw [hns]; omega, HJ3, HLI.out, ⟨_, _, _, _, _, _, P7.out⟩, HB7.out⟩
            · have hbd := HBAD.out h0
              have HJ2 := Lib.hid (hj.out.trans HST.out)
              rw [hbd] at HJ2 HLS
              have t6 : (dc != 0) = true := by simp [h0]
              have KA := Lib.hid (RnAnswer_any x W5 HP5.out hI.out hn6 hs.2)
              have hls := HLS.out
              dsimp only at hls
              generalize ansB S x = an at HJ2 KA hls
              have z1 : ¬ 9223372036854775807 < an.size + 1 := by omega
              have z2 : ¬ 9223372036854775807 < acc.size + (an.size + 1) := by omega
              have hns : (acc ++ (an ++ ⟨#[10]⟩)).size = acc.size + (an.size + 1) := by simp only [ByteArray.size_append]; rfl
              have lz : lb < w4.heap.size := cell_lt gc4
              have nz : ¬ lb = w4.heap.size := Nat.ne_of_lt lz
              have mz : ¬ w4.heap.size = lb := fun h => nz h.symm
              clear hbd h0 hW5 KD bA b4 gc gc5
              go_wp2_with fail
              rw [HW5.out]
              refine KA.out.mono ?_
              rintro e w7 ⟨rfl, b7⟩
              have P7 := Lib.hid (HP5.out.below b7)
              have HB7 := Lib.hid (HB5.out.trans (b7.mono HB5.out.size))
              clear b7 d0 d1 gc4 lz nz mz
              go_wp2
              go_roundg (LL.length - (k + 1))
              case measure => omega
              case rel => exact ⟨k + 1, _, S, ⟨by omega, rfl⟩, by go_num, rfl, by rw [hns]; omega, HJ2, hI, ⟨_, _, _, _, _, _, P7.out⟩, HB7.out⟩
          · obtain rfl : k = LL.length := by omega
            have HN := Lib.hid (show scrS t xss bs sm' wk' LL ⟨#[]⟩ (newS sm' wk') = acc by rw [hj.out, List.drop_eq_nil_of_le (Nat.le_refl _)]; rfl)
            have HBB := Lib.hid (B2.out.trans (hb.mono B2.out.size))
            clear hj hI P hb
            go_wp2
            refine bodyPost_ret (v := .tuple #[.string acc, .int .i64 0]) (by simp [results, Tryz.results24, go_sem]) rfl ?_
            exact ⟨by rw [HF.out, HN.out], HBB.out⟩
end Go.Proofs.YtofpelmplcoegaaGreat
namespace Go.Proofs.YtofpelmplcoegaaGreat
open Go.RowKit Go.Sort
/-- lines, each with its end -/
def catB : List ByteArray → ByteArray
  | [] => ⟨#[]⟩
  | x :: r => x ++ (mkB [10] ++ catB r)
theorem nlB_mk : nlB = mkB [10] := rfl
theorem empty_app (a : ByteArray) : (⟨#[]⟩ : ByteArray) ++ a = a := by apply ByteArray.ext; simp
theorem app_empty (a : ByteArray) : a ++ (⟨#[]⟩ : ByteArray) = a := by apply ByteArray.ext; simp
theorem catB_app : ∀ (a b : List ByteArray), catB (a ++ b) = catB a ++ catB b
  | [], b => (empty_app _).symm
  | x :: r, b => by
    show x ++ (mkB [10] ++ catB (r ++ b)) = x ++ (mkB [10] ++ catB r) ++ catB b
    rw [catB_app r b, app_assoc, app_assoc, app_assoc]
theorem catB_snoc (a : List ByteArray) (x : ByteArray) : catB (a ++ [x]) = catB a ++ (x ++ nlB) := by
  rw [catB_app]
  show catB a ++ (x ++ (mkB [10] ++ ⟨#[]⟩)) = _
  rw [app_empty, nlB_mk]
theorem cuts_cat : ∀ (a : List ByteArray) (T : ByteArray), (∀ x ∈ a, (10 : UInt8) ∉ x.data.toList) → cuts (catB a ++ T) 10 = a ++ cuts T 10
  | [], T, _ => by
    show cuts ((⟨#[]⟩ : ByteArray) ++ T) 10 = _
    rw [empty_app]; rfl
  | x :: r, T, h => by
    have e : catB (x :: r) ++ T = x ++ (mkB [10] ++ (catB r ++ T)) := by
      show x ++ (mkB [10] ++ catB r) ++ T = _
      rw [app_assoc, app_assoc, app_assoc]
    rw [e, cuts_app (h x (by simp)), cuts_cat r T (fun y hy => h y (by simp [hy]))]
    rfl
section
variable {t : Int} {xss : List (List Int)} {bs : Int} {sm wk : Nat}
/-- the answers of deeds -/
theorem scr_deeds : ∀ (ds : List (Int × Int)) (rest : List ByteArray) (acc : ByteArray) (S : PS), (∀ d ∈ ds, deedOk d.1 d.2 = true) →
    scrS t xss bs sm wk (ds.map (fun d => deedTextB d.1 d.2) ++ rest) acc S = scrS t xss bs sm wk rest (acc ++ catB ((codesS t xss bs sm wk ds S).map errB)) (afterS t xss bs sm wk ds S)
  | [], rest, acc, S, _ => by
    show scrS t xss bs sm wk rest acc S = scrS t xss bs sm wk rest (acc ++ ⟨#[]⟩) S
    rw [app_empty]
  | d :: r, rest, acc, S, h => by
    have hd := h d (by simp)
    have hr : deedR (deedTextB d.1 d.2) = (d.1, d.2, 0) := deedR_yes ⟨hd, rfl⟩
    have hl := lineS_do (t := t) (xss := xss) (bs := bs) (sm := sm) (wk := wk) (S := S) hr
    show scrS t xss bs sm wk (r.map (fun d => deedTextB d.1 d.2) ++ rest) (acc ++ ((lineS t xss bs sm wk (deedTextB d.1 d.2) S).1 ++ nlB)) (lineS t xss bs sm wk (deedTextB d.1 d.2) S).2 = _
    rw [hl]
    dsimp only
    rw [scr_deeds r rest _ _ (fun x hx => h x (by simp [hx]))]
    have e : acc ++ (errB (doS t xss bs sm wk (d.1, d.2) S).1 ++ nlB) ++ catB ((codesS t xss bs sm wk r (doS t xss bs sm wk (d.1, d.2) S).2).map errB) = acc ++ catB ((codesS t xss bs sm wk (d :: r) S).map errB) := by
      show _ = acc ++ (errB (doS t xss bs sm wk d S).1 ++ (mkB [10] ++ catB ((codesS t xss bs sm wk r (doS t xss bs sm wk d S).2).map errB)))
      rw [nlB_mk]
      simp only [app_assoc]
    rw [e]
    rfl
end
def wB : ByteArray := ⟨#[119, 104, 97, 116, 32, 105, 115, 32, 116, 104, 105, 115]⟩
def tailB : ByteArray := ⟨#[104, 97, 110, 100, 101, 100, 10, 119, 104, 97, 116, 32, 105, 115, 32, 116, 104, 105, 115]⟩
theorem cuts_tail : cuts tailB 10 = [handedB, wB] := by
  have e : tailB = handedB ++ (mkB [10] ++ wB) := by kernel_rfl
  rw [e, cuts_app (by decide), cuts_one (by decide)]
theorem no_deed {x y : ByteArray} {r : List ByteArray} (hL : cuts x 32 = y :: r) (h : ∀ j : Nat, j < 11 → decide (wordOf (j : Int) = y) = false) : (deedR x).2.2 = 5 := by
  rw [deedR_kind0 hL (by simp) (fun j h1 h2 e => by
    have := h j.toNat (by omega)
    rw [Int.toNat_of_nonneg (by omega)] at this
    simp at this
    exact this e)]
theorem no_handed : (deedR handedB).2.2 = 5 := no_deed (y := handedB) (r := []) (cuts_one (by decide)) (by decide)
theorem no_what : (deedR wB).2.2 = 5 := by
  have e : wB = whatB ++ (mkB [32] ++ ⟨#[105, 115, 32, 116, 104, 105, 115]⟩) := by kernel_rfl
  refine no_deed (y := whatB) (r := cuts ⟨#[105, 115, 32, 116, 104, 105, 115]⟩ 32) ?_ (by decide)
  rw [e, cuts_app (by decide)]
theorem ans_handed (S : PS) : ansB S handedB = listB S.out := if_pos rfl
theorem ans_what (S : PS) : ansB S wB = whatB := by
  unfold ansB
  rw [if_neg (by decide), if_neg (by decide), if_neg (by decide)]
section
variable {t : Int} {xss : List (List Int)} {bs : Int} {sm wk : Nat}
theorem scr_tail (acc : ByteArray) (S : PS) : scrS t xss bs sm wk [handedB, wB] acc S = acc ++ (listB S.out ++ nlB) ++ (whatB ++ nlB) := by
  have e1 : lineS t xss bs sm wk handedB S = (listB S.out, S) := by rw [lineS_bad (by rw [no_handed]; decide), ans_handed]
  have e2 : lineS t xss bs sm wk wB S = (whatB, S) := by rw [lineS_bad (by rw [no_what]; decide), ans_what]
  show acc ++ ((lineS t xss bs sm wk handedB S).1 ++ nlB) ++ ((lineS t xss bs sm wk wB (lineS t xss bs sm wk handedB S).2).1 ++ nlB) = _
  rw [e1]
  dsimp only
  rw [e2]
end
/-- bytes of lists of numbers -/
def NumB (l : List UInt8) : Prop := ∀ c ∈ l, c = 32 ∨ c = 45 ∨ (48 ≤ c.toNat ∧ c.toNat ≤ 57)
theorem NumB.app {a b : ByteArray} (ha : NumB a.data.toList) (hb : NumB b.data.toList) : NumB (a ++ b).data.toList := by
  intro c hc
  rw [app_list] at hc
  rcases List.mem_append.1 hc with h | h
  · exact ha c h
  · exact hb c h
theorem numB_dec (n : Int) : NumB (decIB n).data.toList := by
  intro c hc
  have e : (decIB n).data.toList = decI n := by simp [decIB]
  rw [e] at hc
  unfold decI at hc
  split at hc
  · rcases List.mem_cons.1 hc with h | h
    · exact .inr (.inl h)
    · exact .inr (.inr (dec_all _ c h))
  · exact .inr (.inr (dec_all _ c hc))
theorem numB_join {b : ByteArray} (hb : NumB b.data.toList) : ∀ (l : List ByteArray) (acc : ByteArray) (f : Bool), NumB acc.data.toList → (∀ x ∈ l, NumB x.data.toList) → NumB (joinFrom b acc f l).data.toList
  | [], acc, f, ha, _ => ha
  | x :: r, acc, f, ha, hl => by
    unfold joinFrom
    refine numB_join hb r _ false ?_ (fun y hy => hl y (by simp [hy]))
    refine NumB.app ?_ (hl x (by simp))
    split
    · exact ha
    · exact ha.app hb
theorem numB_list (xs : List Int) : NumB (listB xs).data.toList := by
  unfold listB
  split
  · intro c hc; simp at hc; exact .inr (.inl hc)
  · refine numB_join (by intro c hc; simp [spB] at hc; exact .inl hc) _ _ _ (by intro c hc; simp at hc) ?_
    intro x hx
    simp at hx
    obtain ⟨y, _, rfl⟩ := hx
    exact numB_dec y
theorem list_no (xs : List Int) : (10 : UInt8) ∉ (listB xs).data.toList := fun h => by
  have := numB_list xs 10 h
  revert this; decide
def okB : ByteArray := ⟨#[111, 107]⟩
theorem list_ne (xs : List Int) : listB xs ≠ okB := fun e => by
  have h : (111 : UInt8) ∈ (listB xs).data.toList := by rw [e]; decide
  have := numB_list xs 111 h
  revert this; decide
theorem err_no (c : Int) : (10 : UInt8) ∉ (errB c).data.toList := by
  unfold errB codeB
  split
  · decide
  · split
    · decide
    · split <;> decide
theorem err_ok (c : Int) : errB c = okB ↔ c = 0 := by
  constructor
  · intro h
    refine Classical.byContradiction fun h0 => ?_
    unfold errB codeB at h
    rw [if_neg h0] at h
    revert h
    split
    · decide
    · split <;> decide
  · rintro rfl; rfl
end Go.Proofs.YtofpelmplcoegaaGreat
namespace Go.Proofs.YtofpelmplcoegaaGreat
open Go.RowKit Go.Sort
theorem word_nl (k : Int) : (10 : UInt8) ∉ (wordOf k).data.toList := by
  unfold wordOf
  repeat (split; · decide)
  decide
theorem deedTextB_nl (k a : Int) : (10 : UInt8) ∉ (deedTextB k a).data.toList := by
  unfold deedTextB
  split
  · split
    · intro h
      rw [app_list, app_list] at h
      rcases List.mem_append.1 h with h | h
      · rcases List.mem_append.1 h with h | h
        · exact word_nl k h
        · simp at h
      · have hn := numB_dec (a.natAbs : Int)
        rw [decIB_nat] at hn
        have := hn 10 h
        revert this; decide
    · exact word_nl k
  · simp
/-- no result that has been handed out is -1 -/
def OI (S : PS) : Prop := ∀ x ∈ S.out, x ≠ -1
theorem learnS_out (S : PS) (x : Int × Int × Int) : (learnS S x).out = S.out := by
  unfold learnS
  split <;> rfl
theorem come_out (p : Pk) (S : PS) : (comeS p S).out = S.out := by
  unfold comeS writeS
  repeat' split
  all_goals first | rfl | exact learnS_out _ _
theorem crash_out (sm : Nat) (S : PS) : (crashS sm S).out = S.out := by
  unfold crashS
  split <;> rfl
section
variable {t : Int} {xss : List (List Int)} {bs : Int} {sm wk : Nat}
theorem doS_out (S : PS) (d : Int × Int) : (doS t xss bs sm wk d S).2.out = S.out ∨ (S.r.getD S.q.toNat 0 ≠ -1 ∧ (doS t xss bs sm wk d S).2.out = S.out ++ [S.r.getD S.q.toNat 0]) := by
  unfold doS
  split
  · left
    unfold giveS
    split
    · rfl
    · split
      · rfl
      · unfold sendS
        split <;> rfl
  · split
    · left
      unfold workS
      split
      · rfl
      · split
        · rfl
        · split <;> rfl
    · split
      · left
        unfold wireS
        split
        · rfl
        · dsimp only
          split
          · split <;> rfl
          · rw [come_out]
            split <;> rfl
      · split
        · left; rfl
        · split
          · unfold outS
            split
            · left; rfl
            · rename_i h
              exact .inr ⟨fun e => h (.inr e), learnS_out _ _⟩
          · left
            split
            · exact crash_out _ _
            · split
              · split
                · rfl
                · exact crash_out _ _
              · split <;> rfl
theorem OI.after : ∀ (ds : List (Int × Int)) (S : PS), OI S → OI (afterS t xss bs sm wk ds S)
  | [], _, h => h
  | d :: r, S, h => by
    refine OI.after r _ ?_
    rcases doS_out (t := t) (xss := xss) (bs := bs) (sm := sm) (wk := wk) S d with e | ⟨hn, e⟩
    · intro x hx; rw [e] at hx; exact h x hx
    · intro x hx
      rw [e] at hx
      rcases List.mem_append.1 hx with hx | hx
      · exact h x hx
      · simp at hx; rw [hx]; simpa using hn
end
def scriptB (ds : List (Int × Int)) : ByteArray := catB (ds.map fun d => deedTextB d.1 d.2) ++ tailB
theorem catB_size {m : Nat} : ∀ (l : List ByteArray), (∀ x ∈ l, x.size ≤ m) → (catB l).size ≤ (m + 1) * l.length
  | [], _ => Nat.le_refl _
  | x :: r, h => by
    have h1 := h x (by simp)
    have h2 := catB_size r (fun y hy => h y (by simp [hy]))
    show (x ++ (mkB [10] ++ catB r)).size ≤ _
    rw [ByteArray.size_append, ByteArray.size_append, List.length_cons, Nat.mul_succ]
    have h3 : (mkB [10]).size = 1 := rfl
    omega
theorem scriptB_size (ds : List (Int × Int)) : (scriptB ds).size ≤ 17 * ds.length + 19 := by
  unfold scriptB
  rw [ByteArray.size_append]
  have h := catB_size (m := 16) (ds.map fun d => deedTextB d.1 d.2) (fun x hx => by
    simp only [List.mem_map] at hx
    obtain ⟨d, _, rfl⟩ := hx
    exact deedTextB_size _ _)
  rw [List.length_map] at h
  have h3 : tailB.size = 19 := rfl
  omega
theorem script_cuts (ds : List (Int × Int)) : cuts (scriptB ds) 10 = (ds.map fun d => deedTextB d.1 d.2) ++ [handedB, wB] := by
  unfold scriptB
  rw [cuts_cat _ _ (fun x hx => by
    simp only [List.mem_map] at hx
    obtain ⟨d, _, rfl⟩ := hx
    exact deedTextB_nl _ _), cuts_tail]
theorem script_lines (ds : List (Int × Int)) : linesB (scriptB ds) = (ds.map fun d => deedTextB d.1 d.2) ++ [handedB, wB] := by
  unfold linesB
  rw [script_cuts]
  generalize (ds.map fun d => deedTextB d.1 d.2) = l
  have e : (l ++ [handedB, wB]).getD ((l ++ [handedB, wB]).length - 1) ⟨#[]⟩ = wB := by
    rw [List.length_append, List.getD_eq_getElem?_getD, List.getElem?_append_right (by simp)]
    have : l.length + [handedB, wB].length - 1 - l.length = 1 := by show l.length + 2 - 1 - l.length = 1; omega
    rw [this]; rfl
  rw [e, if_neg (by decide)]
def answB (cs : List Int) (out : List Int) : ByteArray := catB (cs.map errB ++ [listB out, whatB])
theorem answ_eq (cs out : List Int) : answB cs out = catB (cs.map errB) ++ (listB out ++ nlB) ++ (whatB ++ nlB) := by
  unfold answB
  rw [catB_app]
  show catB (cs.map errB) ++ (listB out ++ (mkB [10] ++ (whatB ++ (mkB [10] ++ ⟨#[]⟩)))) = _
  rw [app_empty, nlB_mk]
  simp only [app_assoc]
def lastB (out : List Int) : ByteArray := listB out ++ (nlB ++ (whatB ++ nlB))
theorem answ_last (cs out : List Int) : answB cs out = catB (cs.map errB) ++ lastB out := by
  rw [answ_eq]
  unfold lastB
  simp only [app_assoc]
theorem script_run {n t : Int} {xss : List (List Int)} {bs sm wk : Int} {ds : List (Int × Int)} (h : serviceOk n t xss bs sm wk = true) (hd : ∀ d ∈ ds, deedOk d.1 d.2 = true) (hl : ds.length ≤ 118) :
    runSR n t xss bs sm wk (scriptB ds) = (answB (codesS t xss bs sm.toNat wk.toNat ds (newS sm.toNat wk.toNat)) (afterS t xss bs sm.toNat wk.toNat ds (newS sm.toNat wk.toNat)).out, 0) := by
  have hz := scriptB_size ds
  unfold runSR
  rw [if_pos h, script_lines, if_neg (by
    rw [List.length_append, List.length_map]
    show ¬ (_ ∨ 120 < ds.length + 2)
    omega), scr_deeds ds _ _ _ hd, scr_tail, empty_app, answ_eq]
theorem answ_cuts (cs out : List Int) : cuts (answB cs out) 10 = (cs.map errB ++ [listB out, whatB]) ++ [⟨#[]⟩] := by
  have e := cuts_cat (cs.map errB ++ [listB out, whatB]) ⟨#[]⟩ (fun x hx => by
    rcases List.mem_append.1 hx with hx | hx
    · simp only [List.mem_map] at hx
      obtain ⟨c, _, rfl⟩ := hx
      exact err_no c
    · simp only [List.mem_cons, List.not_mem_nil, or_false] at hx
      rcases hx with rfl | rfl
      · exact list_no out
      · decide)
  rw [app_empty] at e
  rw [answB, e, cuts_one (by simp)]
/-- how many of the lines say ok -/
def goodN (l : List ByteArray) : Nat := l.countP fun x => decide (x = okB)
theorem goodN_snoc (l : List ByteArray) (x : ByteArray) : goodN (l ++ [x]) = goodN l + if x = okB then 1 else 0 := by
  unfold goodN
  rw [List.countP_append]
  by_cases h : x = okB <;> simp [h]
theorem goodN_err : ∀ cs : List Int, goodN (cs.map errB) = doneS cs
  | [] => rfl
  | c :: r => by
    have ih := goodN_err r
    unfold goodN doneS at ih ⊢
    rw [List.map_cons, List.countP_cons, List.countP_cons, ih]
    by_cases h : c = 0
    · rw [if_pos (by simpa using (err_ok c).2 h), if_pos (by simpa using h)]
    · rw [if_neg (by simpa using fun e => h ((err_ok c).1 e)), if_neg (by simpa using h)]
theorem answ_good (cs out : List Int) : goodN (cs.map errB ++ [listB out, whatB]) = doneS cs := by
  have e : cs.map errB ++ [listB out, whatB] = (cs.map errB ++ [listB out]) ++ [whatB] := by simp
  rw [e, goodN_snoc, goodN_snoc, goodN_err, if_neg (list_ne out), if_neg (by decide)]; rfl
theorem answ_size {cs out : List Int} (h : In64 out) (hl : out.length ≤ 8) : (answB cs out).size ≤ 21 * cs.length + 206 := by
  rw [answ_eq, ByteArray.size_append, ByteArray.size_append]
  have h1 := catB_size (m := 20) (cs.map errB) (fun x hx => by
    simp only [List.mem_map] at hx
    obtain ⟨d, _, rfl⟩ := hx
    exact errB_size _)
  rw [List.length_map] at h1
  have h2 := listB_size h hl
  have h3 : (whatB ++ nlB).size = 5 := by decide
  have h4 : (listB out ++ nlB).size = (listB out).size + 1 := by rw [ByteArray.size_append]; rfl
  omega
/-- one more byte looked at -/
theorem good_end {s : ByteArray} {L l : List ByteArray} {f : Nat} (e : cuts s 10 = L ++ cutG s 10 f s.size) (e2 : cuts s 10 = l ++ [⟨#[]⟩]) : goodN L = goodN l := by
  rw [cutG_end (by omega), e2] at e
  have h := (List.append_inj' e (by simp)).1
  rw [h]
end Go.Proofs.YtofpelmplcoegaaGreat
namespace Go.Proofs.YtofpelmplcoegaaGreat
open Go.RowKit Go.Sort
theorem okNl : (⟨#[111, 107]⟩ : ByteArray) ++ ⟨#[10]⟩ = ⟨#[111, 107, 10]⟩ := by kernel_rfl
theorem whatNl : whatB ++ ⟨#[10]⟩ = ⟨#[119, 104, 97, 116, 10]⟩ := by kernel_rfl

set_option maxRecDepth 100000 in
set_option maxHeartbeats 8000000 in
theorem ImplRunScript_any {u : Value} {xss : List (List Int)} (n t bs sm wk : Int) (text : ByteArray) (w : World) (ha : SlII w u xss) (ht : text.size ≤ 1048576) :
    Calls Tryz.prog 23 #[.agg #[.int .i64 n, .int .i64 t, u, .int .i64 bs, .int .i64 sm, .int .i64 wk], .string text] w fun e w' => e = .returned (.tuple #[.string (runSR n t xss bs sm wk text).1, .int .i64 (runSR n t xss bs sm wk text).2]) ∧ Below w.heap.size w w' := by
  have HA := Lib.hid (fun W (h : Below w.heap.size w W) => ha.below h)
  obtain ⟨a, ca, us, rfl, _⟩ := id ha
  have bx : Below w.heap.size w (w.alloc (.cells #[.int .i64 n, .int .i64 t, .slice a xss.length ca, .int .i64 bs, .int .i64 sm, .int .i64 wk] 42)) := (Below.refl _ _).alloc (Nat.le_refl _) _
  have KX := Lib.hid (CellsAt.new w [.int .i64 n, .int .i64 t, .slice a xss.length ca, .int .i64 bs, .int .i64 sm, .int .i64 wk] 42)
  have K := Lib.hid (ImplValidService_any n t bs sm wk _ (ha.below bx))
  generalize hv : serviceOk n t xss bs sm wk = V at K
  have HVV := Lib.hid hv
  cases V
  · have HF := Lib.hid (show runSR n t xss bs sm wk text = (⟨#[]⟩, 1) by unfold runSR; rw [hv]; rfl)
    clear hv ha
    go_enter Tryz.func23, Tryz.ntmps23
    go_wp2_with fail
    refine K.out.mono ?_
    rintro e w1 ⟨rfl, b1⟩
    go_wp2
    refine bodyPost_ret (v := .tuple #[.string ⟨#[]⟩, .int .i64 1]) (by simp [results, Tryz.results23, go_sem]) rfl ?_
    exact ⟨by rw [HF.out], bx.trans (b1.mono bx.size)⟩
  · obtain ⟨n', sm', wk', rfl, rfl, rfl, hs, hwk, hn6⟩ := servOk_nat hv
    obtain ⟨hch, _, _, hbs⟩ := serviceOk_parts hv
    have hcl := cuts_lens text 10
    have hc1 := cuts_len text 10
    have hcs := hcl.2
    have hcl1 := hcl.1
    have hlt2 := fun (L : List ByteArray) (m : Nat) (h1 : cuts text 10 = L) (h2 : L.length = m + 1) => linesB_two h1 h2
    generalize hL : cuts text 10 = L at hc1 hcs hcl1 hlt2
    have HL := Lib.hid hL
    obtain ⟨m, hm⟩ : ∃ m, L.length = m + 1 := ⟨L.length - 1, by omega⟩
    have hll := hlt2 L m rfl hm
    obtain ⟨LL, hLL⟩ : ∃ LL, LL = linesB text := ⟨_, rfl⟩
    rw [← hLL] at hll
    have HSZ := Lib.hid (show ∀ y ∈ LL, y.size ≤ 1048576 from fun y hy => by
      have h1 : y ∈ L := by
        rw [hll] at hy
        split at hy
        · exact List.mem_of_mem_take hy
        · exact hy
      have := hcs y h1
      omega)
    have hm1 : m ≤ 1048576 := by omega
    have HF := Lib.hid (show runSR n' t xss bs sm' wk' text = if 20000 < text.size ∨ 120 < LL.length then (⟨#[]⟩, 2) else (scrS t xss bs sm' wk' LL ⟨#[]⟩ (newS sm' wk'), 0) by
      unfold runSR
      rw [if_pos hv, ← hLL, Int.toNat_natCast, Int.toNat_natCast])
    have HLL := Lib.hid hll
    have HM := Lib.hid hm
    have HCH := Lib.hid hch
    clear hv ha hcl hcs hcl1 hL hc1 hll hm hch hLL hlt2
    go_enter Tryz.func23, Tryz.ntmps23
    go_wp2_with fail
    refine K.out.mono ?_
    rintro e w1 ⟨rfl, b1⟩
    have B1 := Lib.hid (bx.trans (b1.mono bx.size))
    have K1 := Lib.hid (KX.out.below b1)
    clear bx b1 K KX
    go_wp2_with fail
    refine (splitAt_any text 10 _ ht).mono ?_
    rintro e w2 ⟨v2, rfl, o2, b2⟩
    rw [HL.out] at o2
    have B2 := Lib.hid (B1.out.trans (b2.mono B1.out.size))
    have K2 := Lib.hid (K1.out.below b2)
    obtain ⟨la, lc, rfl, lm1, lm2, _⟩ := id o2.sl
    unfold maxLen at lm2
    have hmm := HM.out
    have o2s := o2.sl
    obtain ⟨lb, lo, rfl, _, gl⟩ := FS_get o2s (i := m) (by omega)
    rw [getD_at (by omega)] at gl
    obtain ⟨y, hy⟩ : ∃ y, y = L.getD m ⟨#[]⟩ := ⟨_, rfl⟩
    have hl := HLL.out
    rw [← hy] at gl hl
    have HLL := Lib.hid hl
    rw [hmm] at lm1 o2s ⊢
    have HO := Lib.hid o2s
    clear o2 hmm b2 o2s hy hl
    go_upto_if 25 with (fail)
    go_cut [6] (fun v wc => v = .slice (some ⟨lb, lo, none⟩) LL.length lc ∧ wc = w2 ∧ Hid (FStr.Sl w2 (.slice (some ⟨lb, lo, none⟩) LL.length lc) LL))
    case first =>
      have hl := HLL.out
      by_cases he : y = ⟨#[]⟩
      · rw [if_pos he] at hl
        have t1 := isEmptyT he
        have hlen : LL.length = m := by rw [hl]; have := HM.out; simp; omega
        have HS := Lib.hid (show FStr.Sl w2 (.slice (some ⟨lb, lo, none⟩) LL.length lc) LL by rw [hlen, hl]; exact Flat.Sl.take' HO.out (by have := HM.out; omega))
        have HLEN := Lib.hid hlen
        clear hl he hlen
        go_wp2_with fail
        · go_meet
          case rel => exact ⟨by rw [HLEN.out], rfl, HS⟩
        · exact absurd (t1.symm.trans ‹y.toList.isEmpty = false›) (by decide)
      · rw [if_neg he] at hl
        have t1 := isEmptyF he
        have hlen : LL.length = m + 1 := by rw [hl]; exact HM.out
        have HS := Lib.hid (show FStr.Sl w2 (.slice (some ⟨lb, lo, none⟩) LL.length lc) LL by rw [hlen, hl]; exact HO.out)
        have HLEN := Lib.hid hlen
        clear hl he hlen
        go_wp2_with fail
        · exact absurd (t1.symm.trans ‹y.toList.isEmpty = true›) (by decide)
        · go_meet
          case rel => exact ⟨by rw [HLEN.out], rfl, HS⟩
    case rest =>
      obtain ⟨rfl, rfl, HSL⟩ := hcut
      have HLLB := HLL
      have HSW := Lib.hid (fun W (h : Below wc.heap.size wc W) => HSL.out.below h)
      have hlc := (HSL.out.len_of).2
      clear gl HO HLL HM HSL HL
      by_cases h2 : 20000 < text.size ∨ 120 < LL.length
      · have HF := Lib.hid (HF.out.trans (if_pos h2))
        by_cases h3 : 20000 < text.size
        · have i1 : (20000 : Int) < (text.size : Int) := by omega
          go_wp2
          refine bodyPost_ret (v := .tuple #[.string ⟨#[]⟩, .int .i64 2]) (by simp [results, Tryz.results23, go_sem]) rfl ?_
          exact ⟨by rw [HF.out], B2.out⟩
        · have i1 : (text.size : Int) ≤ 20000 := by omega
          have i2 : (120 : Int) < (LL.length : Int) := by omega
          go_wp2
          refine bodyPost_ret (v := .tuple #[.string ⟨#[]⟩, .int .i64 2]) (by simp [results, Tryz.results23, go_sem]) rfl ?_
          exact ⟨by rw [HF.out], B2.out⟩
      · have HF := Lib.hid (HF.out.trans (if_neg h2))
        have i1 : (text.size : Int) ≤ 20000 := by omega
        have i2 : (LL.length : Int) ≤ 120 := by omega
        have hl120 : LL.length ≤ 120 := by omega
        have HV := Lib.hid (show ∀ W, Below wc.heap.size wc W → CellsAt W w.heap.size [.int .i64 n', .int .i64 t, .slice a xss.length ca, .int .i64 bs, .int .i64 sm', .int .i64 wk'] ∧ SlII W (.slice a xss.length ca) xss from fun W h => ⟨K2.out.below h, HA.out W (B2.out.trans (h.mono B2.out.size))⟩)
        have k0 := K2.out.get 0 _ rfl
        have k1 := K2.out.get 1 _ rfl
        have k2 := K2.out.get 2 _ rfl
        have k3 := K2.out.get 3 _ rfl
        have k4 := K2.out.get 4 _ rfl
        have k5 := K2.out.get 5 _ rfl
        clear h2
        go_wp2_with fail
        refine (newPlant_any n' t bs wc hs hwk).mono ?_
        rintro e w3 ⟨vl, vr, vh, rfl, pv, b3⟩
        obtain ⟨va0, vn0, vc0, rfl⟩ : ∃ x y z, vl = .slice x y z := by
          have h := pv.own 0 _ rfl
          obtain ⟨x, z, h1, _⟩ := ownsRow_rd h
          exact ⟨x, _, z, h1⟩
        obtain ⟨vr0, rn0, rc0, rfl⟩ : ∃ x y z, vr = .slice x y z := by
          have h := pv.own 1 _ rfl
          obtain ⟨x, z, h1, _⟩ := ownsRow_rd h
          exact ⟨x, _, z, h1⟩
        obtain ⟨vh0, hn0, hc0, rfl⟩ : ∃ x y z, vh = .slice x y z := by
          have h := pv.own 3 _ rfl
          obtain ⟨x, z, h1, _⟩ := ownsRow_rd h
          exact ⟨x, _, z, h1⟩
        have P3 := pv.box
        have ba : Below w3.heap.size w3 (w3.alloc (.cells #[.slice va0 vn0 vc0, .slice vr0 rn0 rc0, .int .i64 0, .slice none 0 0, .int .i64 0, .slice vh0 hn0 hc0, .slice none 0 0, .slice none 0 0] 37)) := (Below.refl _ _).alloc (Nat.le_refl _) _
        obtain ⟨W3, hW3⟩ : ∃ W3, W3 = w3.alloc (.cells #[.slice va0 vn0 vc0, .slice vr0 rn0 rc0, .int .i64 0, .slice none 0 0, .int .i64 0, .slice vh0 hn0 hc0, .slice none 0 0, .slice none 0 0] 37) := ⟨_, rfl⟩
        have P3 := Lib.hid (show PlIs W3 w3.heap.size 0 (fun k => wc.heap.size ≤ k) (newS sm' wk') (.slice va0 vn0 vc0) (.slice vr0 rn0 rc0) (.slice none 0 0) (.slice vh0 hn0 hc0) (.slice none 0 0) (.slice none 0 0) from by
          rw [hW3]
          exact P3.mono (fun k hk => hk.elim (fun h => h) (fun h => Nat.le_trans b3.size h)))
        rw [← hW3] at ba
        have B3 := Lib.hid (show Below wc.heap.size wc W3 from b3.trans (ba.mono b3.size))
        have HW3 := Lib.hid hW3.symm
        clear k0 k1 k2 k3 k4 k5 pv b3 ba hW3
        go_wp2
        rw [HW3.out]
        go_loopg [8, 10, 11, 12, 13, 43] LL.length (fun f o _ _ _ _ i wr => ∃ (k : Nat) (acc : ByteArray) (S : PS), (k ≤ LL.length ∧ f = LL.length - k) ∧ i = .int .i64 k ∧ o = .string acc ∧ acc.size ≤ 300 * k ∧ Hid (scrS t xss bs sm' wk' LL ⟨#[]⟩ (newS sm' wk') = scrS t xss bs sm' wk' (LL.drop k) acc S) ∧ Hid (PInv n' sm' wk' S) ∧ (∃ vl vr ve vh vw vo, PlIs wr w3.heap.size 0 (fun g => wc.heap.size ≤ g) S vl vr ve vh vw vo) ∧ Below wc.heap.size wc wr)
        case atStart => exact ⟨0, ⟨#[]⟩, newS sm' wk', ⟨Nat.zero_le _, rfl⟩, rfl, rfl, Nat.le_refl _, rfl, PInv.new hs.1, ⟨_, _, _, _, _, _, P3.out⟩, B3.out⟩
        case round =>
          obtain ⟨k, acc, S, ⟨hk, rfl⟩, rfl, rfl, hsz, hj, hI, ⟨vl, vr, ve, vh, vw, vo, P⟩, hb⟩ := hrel
          have HB := Lib.hid hb
          by_cases hlt : k < LL.length
          · obtain ⟨xb, xo, hxe, _, gc⟩ := FS_get (HSW.out _ hb) hlt
            simp only [Option.some.injEq, Addr.mk.injEq] at hxe
            obtain ⟨rfl, rfl, _⟩ := hxe
            have j1 : (k : Int) < (LL.length : Int) := by omega
            have hxs := HSZ.out _ (List.getElem_mem hlt)
            have hst := scrS_step (t := t) (xss := xss) (bs := bs) (sm := sm') (wk := wk') hlt acc S
            generalize LL[k] = x at gc hxs hst
            have hls := lineS_size (t := t) (xss := xss) (bs := bs) hI.out hn6 hs.2 x
            have hli := lineS_inv (t := t) (xss := xss) (bs := bs) hI.out HCH.out hs.1 x
            have HST := Lib.hid hst
            have HLS := Lib.hid hls
            have HLI := Lib.hid hli
            have HP := Lib.hid P
            have KR := Lib.hid (fun W => ImplReadDeed_any x W hxs)
            have hbad := fun h => lineS_bad (t := t) (xss := xss) (bs := bs) (sm := sm') (wk := wk') (S := S) (x := x) h
            have hdo := fun k a h => lineS_do (t := t) (xss := xss) (bs := bs) (sm := sm') (wk := wk') (S := S) (x := x) (k := k) (a := a) h
            have hok := deedR_ok x
            generalize deedR x = R at KR hbad hdo hok
            obtain ⟨dk, da, dc⟩ := R
            dsimp only at hbad hok
            have HBAD := Lib.hid hbad
            have HDO := Lib.hid hdo
            have HOKD := Lib.hid hok
            unfold tupD at KR
            dsimp only at KR
            clear hst hls hli P hbad hdo hok hb
            go_wp2_with fail
            refine (KR.out _).mono ?_
            rintro e w4 ⟨rfl, b4⟩
            have HP4 := Lib.hid (HP.out.below b4)
            have HB4 := Lib.hid (HB.out.trans (b4.mono HB.out.size))
            have bA : Below w4.heap.size w4 (w4.alloc (.cells #[.int .i64 dk, .int .i64 da] 59)) := (Below.refl _ _).alloc (Nat.le_refl _) _
            obtain ⟨W5, hW5⟩ : ∃ W5, W5 = w4.alloc (.cells #[.int .i64 dk, .int .i64 da] 59) := ⟨_, rfl⟩
            rw [← hW5] at bA
            have HP5 := Lib.hid (HP4.out.below bA)
            have HB5 := Lib.hid (HB4.out.trans (bA.mono HB4.out.size))
            have HW5 := Lib.hid hW5.symm
            by_cases h0 : dc = 0
            · subst h0
              have hokd := HOKD.out rfl
              have hd := HDO.out dk da rfl
              have HD := Lib.hid (PlDo_any t bs W5 HP5.out hI.out hs hwk (HV.out W5 HB5.out).2 HCH.out hbs dk da hokd)
              have hcode := doS_code t xss bs sm' wk' (dk, da) S
              generalize hR : doS t xss bs sm' wk' (dk, da) S = R at HD hd hcode
              obtain ⟨c, Sn⟩ := R
              dsimp only at hd hcode
              have HDD := Lib.hid hd
              have HCC := Lib.hid hcode
              have K4 := (HV.out w4 HB4.out).1
              have k0 := K4.get 0 _ rfl
              have k1 := K4.get 1 _ rfl
              have k2 := K4.get 2 _ rfl
              have k3 := K4.get 3 _ rfl
              have k4 := K4.get 4 _ rfl
              have k5 := K4.get 5 _ rfl
              have lz : w.heap.size < w4.heap.size := K4.1
              have nz : ¬ w.heap.size = w4.heap.size := Nat.ne_of_lt lz
              have mz : ¬ w4.heap.size = w.heap.size := fun h => nz h.symm
              clear hR hd hcode hW5 bA hokd b4 gc K4
              go_wp2_with fail
              rw [HW5.out]
              refine HD.out.mono ?_
              intro e w6 h
              obtain ⟨rfl, ⟨vl', vr', ve', vh', vw', vo', P6⟩, F6⟩ := h
              have hb6 : Below wc.heap.size wc w6 := HB5.out.trans (F6.below HB5.out.size (fun g hg => hg))
              have P6 := Lib.hid (P6.mono (B' := fun g => wc.heap.size ≤ g) (fun g hg => hg.elim (fun h => h) (fun h => Nat.le_trans HB5.out.size h)))
              have HB6 := Lib.hid hb6
              have HJ2 := Lib.hid (hj.out.trans HST.out)
              rw [HDD.out] at HJ2 HLI HLS
              clear k0 k1 k2 k3 k4 k5 lz nz mz F6 hb6
              by_cases hc : c = 0
              · subst hc
                have hE : errB 0 = ⟨#[111, 107]⟩ := rfl
                have HJ3 := Lib.hid HJ2.out
                rw [hE, show nlB = ⟨#[10]⟩ from rfl, okNl] at HJ3
                have z1 : ¬ 9223372036854775807 < acc.size + 3 := by omega
                have hns : (acc ++ ⟨#[111, 107, 10]⟩).size = acc.size + 3 := by rw [ByteArray.size_append]; rfl
                clear hE
                go_wp2
                go_roundg (LL.length - (k + 1))
                case measure => omega
                case rel => exact ⟨k + 1, _, Sn, ⟨by omega, rfl⟩, by go_num, rfl, by rw [hns]; omega, HJ3, HLI.out, ⟨_, _, _, _, _, _, P6.out⟩, HB6.out⟩
              · have hE : errB c = ⟨#[101, 114, 114, 111, 114, 32]⟩ ++ codeB c := if_neg hc
                have HJ3 := Lib.hid HJ2.out
                rw [hE] at HJ3
                have t6 : (c != 0) = true := by simp [hc]
                have hcs := codeB_size c
                have z0 : ¬ 9223372036854775807 < 6 + (codeB c).size := by omega
                have z1 : ¬ 9223372036854775807 < 6 + (codeB c).size + 1 := by omega
                have z2 : ¬ 9223372036854775807 < acc.size + (6 + (codeB c).size + 1) := by omega
                have HCN := Lib.hid (show c = 2 ∨ c = 3 ∨ c = 4 by have := HCC.out; omega)
                have hns : (acc ++ (⟨#[101, 114, 114, 111, 114, 32]⟩ ++ codeB c ++ ⟨#[10]⟩)).size = acc.size + (6 + (codeB c).size + 1) := by simp only [ByteArray.size_append]; rfl
                clear hE hc
                go_wp2_with fail
                refine (ImplCodeName_any c _ HCN.out).mono ?_
                rintro e w7 ⟨rfl, b7⟩
                have P7 := Lib.hid (P6.out.below b7)
                have HB7 := Lib.hid (HB6.out.trans (b7.mono HB6.out.size))
                clear b7
                go_wp2
                go_roundg (LL.length - (k + 1))
                case measure => omega
                case rel => exact ⟨k + 1, _, Sn, ⟨by omega, rfl⟩, by go_num, rfl, by rw [hns]; omega, HJ3, HLI.out, ⟨_, _, _, _, _, _, P7.out⟩, HB7.out⟩
            · have hbd := HBAD.out h0
              have HJ2 := Lib.hid (hj.out.trans HST.out)
              rw [hbd] at HJ2 HLS
              have t6 : (dc == 0) = false := by simp [h0]
              have hls := HLS.out
              dsimp only at hls
              obtain ⟨i1', i2'⟩ := hI.out.In64s hn6
              obtain ⟨o1, o2, o3, o4⟩ := hI.out.out8 hs.2
              have KO := Lib.hid (orDash_any W5 HP5.out.oo.sl (by omega) i1')
              have KL := Lib.hid (orDash_any W5 HP5.out.ol.sl (by omega) i2')
              obtain ⟨ea, ec, rfl, _, _⟩ := HP4.out.oe.shape
              obtain ⟨⟨q0, q1, q2, q3⟩, q4, q5, q6, q7⟩ := HP4.out.get
              have lz : w3.heap.size < w4.heap.size := HP4.out.blt
              have nz : ¬ w3.heap.size = w4.heap.size := Nat.ne_of_lt lz
              have mz : ¬ w4.heap.size = w3.heap.size := fun h => nz h.symm
              clear hbd h0 bA b4 gc i1' i2'
              by_cases h1 : x = handedB
              · have t1 : (x.toList == [104, 97, 110, 100, 101, 100]) = true := by rw [h1]; kernel_rfl
                have hE : ansB S x = listB S.out := if_pos h1
                rw [hE] at HJ2 hls
                generalize listB S.out = an at HJ2 KO hls
                have z1 : ¬ 9223372036854775807 < an.size + 1 := by omega
                have z2 : ¬ 9223372036854775807 < acc.size + (an.size + 1) := by omega
                have hns : (acc ++ (an ++ ⟨#[10]⟩)).size = acc.size + (an.size + 1) := by simp only [ByteArray.size_append]; rfl
                clear h1 hE hW5 q1 q2 q3 q4 q5 q6
                go_wp2_with fail
                rw [HW5.out]
                refine KO.out.mono ?_
                rintro e w7 ⟨rfl, b7⟩
                have P7 := Lib.hid (HP5.out.below b7)
                have HB7 := Lib.hid (HB5.out.trans (b7.mono HB5.out.size))
                clear b7 q0 q7 lz nz mz t1
                go_wp2
                go_roundg (LL.length - (k + 1))
                case measure => omega
                case rel => exact ⟨k + 1, _, S, ⟨by omega, rfl⟩, by go_num, rfl, by rw [hns]; omega, HJ2, hI, ⟨_, _, _, _, _, _, P7.out⟩, HB7.out⟩
              · have t1 := beqF h1
                rw [show handedB.toList = [104, 97, 110, 100, 101, 100] from by kernel_rfl] at t1
                by_cases h2 : x = levelsB
                · have t2 : (x.toList == [108, 101, 118, 101, 108, 115]) = true := by rw [h2]; kernel_rfl
                  have hE : ansB S x = listB S.l := by unfold ansB; rw [if_neg h1, if_pos h2]
                  rw [hE] at HJ2 hls
                  generalize listB S.l = an at HJ2 KL hls
                  have z1 : ¬ 9223372036854775807 < an.size + 1 := by omega
                  have z2 : ¬ 9223372036854775807 < acc.size + (an.size + 1) := by omega
                  have hns : (acc ++ (an ++ ⟨#[10]⟩)).size = acc.size + (an.size + 1) := by simp only [ByteArray.size_append]; rfl
                  clear h1 h2 hE hW5 q1 q2 q3 q4 q5 q6 q7
                  go_wp2_with fail
                  rw [HW5.out]
                  refine KL.out.mono ?_
                  rintro e w7 ⟨rfl, b7⟩
                  have P7 := Lib.hid (HP5.out.below b7)
                  have HB7 := Lib.hid (HB5.out.trans (b7.mono HB5.out.size))
                  clear b7 q0 lz nz mz t1 t2
                  go_wp2
                  go_roundg (LL.length - (k + 1))
                  case measure => omega
                  case rel => exact ⟨k + 1, _, S, ⟨by omega, rfl⟩, by go_num, rfl, by rw [hns]; omega, HJ2, hI, ⟨_, _, _, _, _, _, P7.out⟩, HB7.out⟩
                · have t2 := beqF h2
                  rw [show levelsB.toList = [108, 101, 118, 101, 108, 115] from by kernel_rfl] at t2
                  by_cases h3 : x = journalB
                  · have t3 : (x.toList == [106, 111, 117, 114, 110, 97, 108]) = true := by rw [h3]; kernel_rfl
                    have hE : ansB S x = decB S.recs.length ++ spB ++ decB S.sy := by unfold ansB; rw [if_neg h1, if_neg h2, if_pos h3]
                    have hbB : Below W5.heap.size W5 (W5.alloc (.cells #[.int .i64 S.recs.length, .int .i64 S.sy] 2)) := (Below.refl _ _).alloc (Nat.le_refl _) _
                    have KJ := Lib.hid (decimals_any (u := .slice (some ⟨W5.heap.size, 0, none⟩) 2 2) (xs := [(S.recs.length : Int), (S.sy : Int)]) spB (W5.alloc (.cells #[.int .i64 S.recs.length, .int .i64 S.sy] 2)) ⟨_, _, rfl, Nat.le_refl _, by simp [maxLen], rd_new W5 #[.int .i64 S.recs.length, .int .i64 S.sy] 2⟩ (by simp) (by intro y hy; simp at hy; omega) (by decide))
                    rw [decsB_two] at KJ
                    rw [hE] at HJ2 hls
                    generalize decB S.recs.length ++ spB ++ decB S.sy = an at HJ2 KJ hls
                    have z1 : ¬ 9223372036854775807 < an.size + 1 := by omega
                    have z2 : ¬ 9223372036854775807 < acc.size + (an.size + 1) := by omega
                    have hns : (acc ++ (an ++ ⟨#[10]⟩)).size = acc.size + (an.size + 1) := by simp only [ByteArray.size_append]; rfl
                    have HP6 := Lib.hid (HP5.out.below hbB)
                    have HB6 := Lib.hid (HB5.out.trans (hbB.mono HB5.out.size))
                    have z5 : W5.heap.size = w4.heap.size + 1 := by rw [hW5]; simp
                    rw [z5] at KJ
                    have HZ5 := Lib.hid z5
                    clear h1 h2 h3 hE hW5 q0 q1 q2 q5 q6 q7 hbB z5
                    go_wp2_with fail
                    rw [HW5.out]
                    refine KJ.out.mono ?_
                    rintro e w7 ⟨rfl, b7⟩
                    have P7 := Lib.hid (HP6.out.below b7)
                    have HB7 := Lib.hid (HB6.out.trans (b7.mono HB6.out.size))
                    clear b7 q3 q4 lz nz mz t1 t2 t3
                    go_wp2
                    go_roundg (LL.length - (k + 1))
                    case measure => omega
                    case rel => exact ⟨k + 1, _, S, ⟨by omega, rfl⟩, by go_num, rfl, by rw [hns]; omega, HJ2, hI, ⟨_, _, _, _, _, _, P7.out⟩, HB7.out⟩
                  · have t3 := beqF h3
                    rw [show journalB.toList = [106, 111, 117, 114, 110, 97, 108] from by kernel_rfl] at t3
                    have hE : ansB S x = whatB := by unfold ansB; rw [if_neg h1, if_neg h2, if_neg h3]
                    have HJ3 := Lib.hid HJ2.out
                    rw [hE, show nlB = ⟨#[10]⟩ from rfl, whatNl] at HJ3
                    have z1 : ¬ 9223372036854775807 < acc.size + 5 := by omega
                    have hns : (acc ++ ⟨#[119, 104, 97, 116, 10]⟩).size = acc.size + 5 := by rw [ByteArray.size_append]; rfl
                    clear h1 h2 h3 hE hW5 q0 q1 q2 q3 q4 q5 q6 q7 HJ2
                    go_wp2
                    rw [HW5.out]
                    go_roundg (LL.length - (k + 1))
                    case measure => omega
                    case rel => exact ⟨k + 1, _, S, ⟨by omega, rfl⟩, by go_num, rfl, by rw [hns]; omega, HJ3, hI, ⟨_, _, _, _, _, _, HP5.out⟩, HB5.out⟩
          · obtain rfl : k = LL.length := by omega
            have HN := Lib.hid (show scrS t xss bs sm' wk' LL ⟨#[]⟩ (newS sm' wk') = acc by rw [hj.out, List.drop_eq_nil_of_le (Nat.le_refl _)]; rfl)
            have HBB := Lib.hid (B2.out.trans (hb.mono B2.out.size))
            clear hj hI P hb
            go_wp2
            refine bodyPost_ret (v := .tuple #[.string acc, .int .i64 0]) (by simp [results, Tryz.results23, go_sem]) rfl ?_
            exact ⟨by rw [HF.out, HN.out], HBB.out⟩
end Go.Proofs.YtofpelmplcoegaaGreat
