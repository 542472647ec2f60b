/-
  All colourings with a part, by search in depth: the program's.
-/
import Derived.Test.YtmhpbkckmjdojaaIsCol
import Derived.Test.YtmhpbkckmjdojaaDfs
import Derived.Test.YtmhpbkckmjdojaaStep
import Derived.Laws.EntriesVeiled
namespace Go.Proofs.Ytmhpbkckmjdojaa
open Go.RowKit Go.Sort
def okP (part : List Int) (i : Nat) (c : Int) : Bool := decide (part.getD i 0 < 0) || decide (part.getD i 0 = c)
/-- f colours still to come -/
def colD (q : Nat) (part : List Int) (es : List (List Int)) : Nat → List Int → List (List Int)
  | 0, l => if properB es l = true then [l] else []
  | f + 1, l => ((upTo q).filter (fun c => okP part l.length c)).flatMap fun c => colD q part es f (l ++ [c])
def colN (q : Nat) (part : List Int) (es : List (List Int)) (f : Nat) (l : List Int) (x : Nat) : List (List Int) := ((upTo x).filter (fun c => okP part l.length c)).flatMap fun c => colD q part es f (l ++ [c])
theorem colN_no {q f x : Nat} {part : List Int} {es : List (List Int)} {l : List Int} (h : okP part l.length x = false) : colN q part es f l (x + 1) = colN q part es f l x := by
  unfold colN; rw [upTo_succ, List.filter_append]; simp [h]
theorem colN_yes {q f x : Nat} {part : List Int} {es : List (List Int)} {l : List Int} (h : okP part l.length x = true) : colN q part es f l (x + 1) = colN q part es f l x ++ colD q part es f (l ++ [(x : Int)]) := by
  unfold colN; rw [upTo_succ, List.filter_append]; simp [h]
theorem colN_mono (q f : Nat) (part : List Int) (es : List (List Int)) (l : List Int) : ∀ x y, x ≤ y → (colN q part es f l x).length ≤ (colN q part es f l y).length := by
  intro x y h
  induction h with
  | refl => exact Nat.le_refl _
  | step _ ih =>
    rename_i k _
    cases hm : okP part l.length k
    · rw [colN_no hm]; exact ih
    · rw [colN_yes hm, List.length_append]; omega
theorem CellsAt.blk {w w' : World} {b : Nat} {vs : List Value} (h : CellsAt w b vs) (hs : w.heap.size ≤ w'.heap.size) (hb : w'.heap[b]? = w.heap[b]?) : CellsAt w' b vs :=
  ⟨Nat.lt_of_lt_of_le h.1 hs, fun i u hu => by rw [World.cell?_of_block hb]; exact h.2 i u hu⟩
/-- the boxes of the search -/
structure ColBox (w : World) (bg bq bp bo bf m q : Nat) (gv pv v : Value) : Prop where
  g0 : CellsAt w bg [.int .i64 m, gv]
  q0 : CellsAt w bq [.int .i64 q]
  p0 : CellsAt w bp [pv]
  o0 : w.cell? ⟨bo, 0, none⟩ = some v
  fo : w.frozen? ⟨bo, 0, none⟩ = false
  f0 : w.cell? ⟨bf, 0, none⟩ = some (.func (.func 49) #[] #[.pointer (some ⟨bg, 0, none⟩), .pointer (some ⟨bo, 0, none⟩), .pointer (some ⟨bq, 0, none⟩), .pointer (some ⟨bp, 0, none⟩), .pointer (some ⟨bf, 0, none⟩)])
  nf : ¬ isE 25 w bf
  no : ¬ isE 25 w bo
  no2 : ¬ isE 2 w bo
variable {bg bq bp bo bf m q : Nat} {gv pv v : Value}
theorem ColBox.blk {w w' : World} (h : ColBox w bg bq bp bo bf m q gv pv v) (hs : w.heap.size ≤ w'.heap.size) (h1 : w'.heap[bg]? = w.heap[bg]?) (h2 : w'.heap[bq]? = w.heap[bq]?) (h3 : w'.heap[bp]? = w.heap[bp]?) (h4 : w'.heap[bo]? = w.heap[bo]?) (h5 : w'.heap[bf]? = w.heap[bf]?) : ColBox w' bg bq bp bo bf m q gv pv v :=
  ⟨h.g0.blk hs h1, h.q0.blk hs h2, h.p0.blk hs h3, by rw [World.cell?_of_block h4]; exact h.o0, by have := h.fo; simpa [World.frozen?, h4] using this, by rw [World.cell?_of_block h5]; exact h.f0, by rw [isE_same h5]; exact h.nf, by rw [isE_same h4]; exact h.no, by rw [isE_same h4]; exact h.no2⟩
theorem ColBox.below {w w' : World} (h : ColBox w bg bq bp bo bf m q gv pv v) (hb : Below w.heap.size w w') : ColBox w' bg bq bp bo bf m q gv pv v :=
  h.blk hb.size (hb.block _ h.g0.1) (hb.block _ h.q0.1) (hb.block _ h.p0.1) (hb.block _ (cell_lt h.o0)) (hb.block _ (cell_lt h.f0))
theorem ColBox.set {w : World} (h : ColBox w bg bq bp bo bf m q gv pv v) (h1 : bg ≠ bo) (h2 : bq ≠ bo) (h3 : bp ≠ bo) (h4 : bf ≠ bo) (u : Value) : ColBox (w.setCell ⟨bo, 0, none⟩ u) bg bq bp bo bf m q gv pv u := by
  have hs : w.heap.size ≤ (w.setCell ⟨bo, 0, none⟩ u).heap.size := by simp
  have e1 := heap_setCell_other w ⟨bo, 0, none⟩ bg u h1
  have e2 := heap_setCell_other w ⟨bo, 0, none⟩ bq u h2
  have e3 := heap_setCell_other w ⟨bo, 0, none⟩ bp u h3
  have e4 := heap_setCell_other w ⟨bo, 0, none⟩ bf u h4
  refine ⟨h.g0.blk hs e1, h.q0.blk hs e2, h.p0.blk hs e3, ?_, ?_, ?_, fun he => h.nf (isE_set he), fun he => h.no (isE_set he), fun he => h.no2 (isE_set he)⟩
  · simp [go_sem, h.o0]
  · simpa using h.fo
  · rw [World.cell?_of_block e4]; exact h.f0
/-- what a search leaves -/
def ColP (w : World) (base bg bq bp bo bf m q : Nat) (gv pv : Value) (xss ys : List (List Int)) (e : Ending) (w' : World) : Prop :=
  ∃ v', e = .returned (.tuple #[]) ∧ ColBox w' bg bq bp bo bf m q gv pv v' ∧ OwnII w' base v' (xss ++ ys) ∧ Fe base bo 25 w w'
set_option maxRecDepth 100000 in
set_option maxHeartbeats 2000000 in
theorem col_leaf {u : Value} {xss es : List (List Int)} {l : List Int} (base B : Nat) (w : World) (hbx : ColBox w bg bq bp bo bf m q gv pv v) (h1 : bg < base) (h2 : bq < base) (h3 : bp < base) (h4 : base ≤ bo) (h5 : bf ≠ bo)
    (hes : SlII w gv es) (hE : EdgesB m es) (hown : OwnIIB w base B v xss) (hu : OwnI w base u l) (hB : ∀ g, u.ownBlock = some g → B ≤ g) (hl : l.length = m) (hs : xss.length ≤ 5000) (hbase : base ≤ w.heap.size) (hm : m ≤ 100) (ys : List (List Int)) (hys : Hid (ys = if properB es l = true then [l] else [])) :
    Calls Try.prog 49 #[u, .pointer (some ⟨bg, 0, none⟩), .pointer (some ⟨bo, 0, none⟩), .pointer (some ⟨bq, 0, none⟩), .pointer (some ⟨bp, 0, none⟩), .pointer (some ⟨bf, 0, none⟩)] w (ColP w base bg bq bp bo bf m q gv pv xss ys) := by
  obtain ⟨ua, uc, rfl, _⟩ := id hu.sl
  obtain ⟨ga, gc, gus, rfl, _⟩ := id hes
  obtain ⟨va, vc, vvs, rfl, _⟩ := id hown.ii.sl
  obtain ⟨k0, _, _, o0, fo, _, _, _, _⟩ := id hbx
  have c0 := k0.get 0 _ rfl
  have c1 := k0.get 1 _ rfl
  have HE := Lib.hid hE
  have HBX := Lib.hid hbx
  have HB := Lib.hid hB
  have HL := Lib.hid hl
  have HO := Lib.hid hown
  have HU := Lib.hid hu
  have HES := Lib.hid hes
  have ht : ((l.length : Int) == (m : Int)) = true := by rw [HL.out]; simp
  have HN1 := Lib.hid (show bg ≠ bo by omega)
  have HN2 := Lib.hid (show bq ≠ bo by omega)
  have HN3 := Lib.hid (show bp ≠ bo by omega)
  have H5 := Lib.hid h5
  generalize hp : properB es l = P
  have HP := Lib.hid hp
  have HY : Hid (ys = if P = true then [l] else []) := by unfold Hid; rw [← hp]; exact hys.out
  clear hbx hown hu hB hl hes hE hp k0 h5
  go_enter Try.func49, Try.ntmps49
  go_wp2_with fail
  refine (isColouring_any m m _ HES.out HU.out.sl HE.out HL.out).mono ?_
  rintro e w1 ⟨rfl, b1⟩
  rw [HP.out]
  have HX1 := Lib.hid (HBX.out.below b1)
  cases P
  · go_wp2
    exact bodyPost_ret (v := .tuple #[]) (by simp [results, Try.results49, go_sem]) rfl ⟨_, rfl, HX1.out, by rw [HY.out]; simpa using HO.out.ii.below b1, Fe.of_below b1⟩
  · have o1 := HX1.out.o0
    have f1 := HX1.out.fo
    have zo := cell_lt o1
    have bx : Below w1.heap.size w1 (w1.alloc (.cells #[.slice ua l.length uc] 25)) := (Below.refl _ _).alloc (Nat.le_refl _) _
    have HO1 := Lib.hid ((HO.out.below b1).below bx)
    have HU1 := Lib.hid ((HU.out.below b1).below bx)
    have hz1 := b1.size
    have B1 := Lib.hid b1
    clear b1 c0 c1 o0 fo
    go_wp2_with (at_builtin; refine listAppRow _ _ _ rfl rfl rfl HO1.out HU1.out HB.out rfl (by simp [go_sem]) (by omega) (by simp; omega) ?_)
    intro v' w2 o2 g2
    have n1 : ∀ k, ¬ isE 25 w1 k ∨ k < base → k < w1.heap.size → w2.heap[k]? = w1.heap[k]? := fun k hk hl => by
      rw [g2.block k (by simp; omega) (fun h => by
        rcases hk with hk | hk
        · obtain ⟨vs, h1, _⟩ := HO1.out
          exact hk ((isE_same (bx.block k hl)).1 (own_isE h1 h.symm))
        · have := (HO1.out.lt k h.symm).1; omega), bx.block k hl]
    have hz2 : w1.heap.size ≤ w2.heap.size := by have := g2.size; simp at this; omega
    have x2 := HX1.out.blk hz2 (n1 _ (.inr h1) HX1.out.g0.1) (n1 _ (.inr h2) HX1.out.q0.1) (n1 _ (.inr h3) HX1.out.p0.1) (n1 _ (.inl HX1.out.no) zo) (n1 _ (.inl HX1.out.nf) (cell_lt HX1.out.f0))
    have p0 := x2.o0
    have po := x2.fo
    obtain ⟨va', n', vc', rfl, _⟩ := o2.form
    have e2 : Fe base bo 25 w w2 := ((Fe.of_below B1.out).trans (Fe.of_below bx)).trans (by obtain ⟨vs, h1, _⟩ := HO1.out; exact Fe.of_grown h1 g2)
    have HX2 := Lib.hid x2
    have E2 := Lib.hid e2
    have O2 := Lib.hid o2
    clear x2 o2 g2 n1 e2 o1 f1
    go_wp2
    exact bodyPost_ret (v := .tuple #[]) (by simp [results, Try.results49, go_sem]) rfl ⟨_, rfl, HX2.out.set HN1.out HN2.out HN3.out H5.out _, by rw [HY.out]; exact O2.out.set_ne (a := ⟨bo, 0, none⟩) HX2.out.no HX2.out.no2 _, E2.out.set rfl _⟩
theorem okP_yes {part : List Int} {i : Nat} {c : Int} (h : part.getD i 0 < 0 ∨ part.getD i 0 = c) : okP part i c = true := by unfold okP; simp only [Bool.or_eq_true, decide_eq_true_eq]; exact h
theorem okP_no {part : List Int} {i : Nat} {c : Int} (h1 : ¬ part.getD i 0 < 0) (h2 : ¬ part.getD i 0 = c) : okP part i c = false := by
  unfold okP
  rw [decide_eq_false h1, decide_eq_false h2]; rfl
set_option maxRecDepth 100000 in
set_option maxHeartbeats 8000000 in
theorem col_any {es : List (List Int)} {part : List Int} (W0 : World) (base : Nat) (h1 : bg < base) (h2 : bq < base) (h3 : bp < base) (h4 : base ≤ bo) (h5 : bf ≠ bo) (hW0 : W0.heap.size ≤ base) (hE : EdgesB m es) (hm : m ≤ 100) (hq : q ≤ 100) (hpl : part.length = m)
    (hes : Hid (∀ W, Below W0.heap.size W0 W → SlII W gv es)) (hpt : Hid (∀ W, Below W0.heap.size W0 W → SlI W pv part)) : ∀ (f : Nat) (l : List Int) (u v : Value) (xss : List (List Int)) (B : Nat) (w : World),
    Hid (l.length + f = m) → ColBox w bg bq bp bo bf m q gv pv v → OwnIIB w base B v xss → OwnI w base u l → Hid (∀ g, u.ownBlock = some g → B ≤ g) → xss.length + (colD q part es f l).length ≤ 5000 → base ≤ w.heap.size → Below W0.heap.size W0 w →
    Calls Try.prog 49 #[u, .pointer (some ⟨bg, 0, none⟩), .pointer (some ⟨bo, 0, none⟩), .pointer (some ⟨bq, 0, none⟩), .pointer (some ⟨bp, 0, none⟩), .pointer (some ⟨bf, 0, none⟩)] w (ColP w base bg bq bp bo bf m q gv pv xss (colD q part es f l)) := by
  intro f
  induction f with
  | zero =>
    intro l u v xss B w hl hbx hown hu hB hs hbase hW
    exact col_leaf base B w hbx h1 h2 h3 h4 h5 (hes.out _ hW) hE hown hu hB.out hl.out (by omega) hbase hm _ (Lib.hid rfl)
  | succ f ih =>
    intro l u v xss B w hl hbx hown hu hB hs hbase hW
    obtain ⟨k0, kq, kp, _, _, _, _, _, _⟩ := id hbx
    have c0 := k0.get 0 _ rfl
    have c1 := k0.get 1 _ rfl
    have cq := kq.get 0 _ rfl
    obtain ⟨ua, n, uc, rfl, hn⟩ := hu.form
    have hlc : l.length < m := by have := hl.out; omega
    have hncs : n < m := by rw [hn.out]; exact hlc
    have ht : ((n : Int) == (m : Int)) = false := by
      simp; omega
    have hmo := Lib.hid (colN_mono q f part es l)
    have hfull : colD q part es (f + 1) l = colN q part es f l q := rfl
    have HF := Lib.hid hfull
    rw [hfull] at hs ⊢
    have HU := Lib.hid hu
    have HOW := Lib.hid hown
    have HBX := Lib.hid hbx
    have HNN := Lib.hid hncs
    have HE := Lib.hid hE
    have HPL := Lib.hid hpl
    clear hu hown hbx hfull hncs hlc k0 kq kp hE hpl
    go_enter Try.func49, Try.ntmps49
    go_wp2
    clear c0 c1 cq
    go_loopw [8, 23] (fun _ i wr => ∃ (x : Nat) (v' : Value), x ≤ q ∧ i = .int .i64 x ∧ ColBox wr bg bq bp bo bf m q gv pv v' ∧ OwnII wr base v' (xss ++ colN q part es f l x) ∧ Fe base bo 25 w wr) (fun _ i _ => q - (intOf i).toNat)
    case atStart => exact ⟨0, v, Nat.zero_le _, rfl, HBX.out, by simpa [colN, upTo] using HOW.out.ii, Fe.refl _ _ _ _⟩
    case round =>
      obtain ⟨x, v', hx, rfl, hbx, hown, hfe⟩ := hrel
      have hur : OwnI wr base (.slice ua n uc) l := ownsRow_fe HU.out hfe (by decide) HBX.out.no2
      have hWr := hW.trans (hfe.below hW0 (Nat.le_trans hW0 h4) hW.size)
      by_cases hlt : x < q
      · have hnp : n < part.length := by rw [HPL.out]; exact HNN.out
        obtain ⟨pa, pc, rfl, _, _, pr⟩ := hpt.out _ hWr
        obtain ⟨pb, po, rfl, gp⟩ := pr.one (i64s_get hnp)
        have ip : (n : Int) < (part.length : Int) := by omega
        have hgd : part.getD l.length 0 = part[n] := by rw [← hn.out, getD_at hnp]
        generalize part[n] = pc0 at gp hgd
        have HGD := Lib.hid hgd
        obtain ⟨_, _, kp, _, q2, q3, _, _, _⟩ := id hbx
        have cp := kp.get 0 _ rfl
        have zbf := cell_lt q3
        have HBX1 := Lib.hid hbx
        have HOW1 := Lib.hid hown.b
        have HUR := Lib.hid hur.sl
        have HFE := Lib.hid hfe
        have HX := Lib.hid (show OwnII wr base v' (xss ++ colN q part es f l x) from hown)
        clear hbx hown hfe hgd pr kp hur
        by_cases hneg : pc0 < 0
        · have hok := okP_yes (part := part) (i := l.length) (c := (x : Int)) (.inl (by rw [HGD.out]; exact hneg))
          have hle := hmo.out (x + 1) q (by omega)
          rw [colN_yes hok, List.length_append] at hle
          have HM := Lib.hid hok
          clear hok
          go_wp2_with fail
          go_region_law (first
            | (refine step_appI (w0 := wr) (w1 := w1) rfl (.tmp 41) (.tmp 43) rfl (y := (x : Int)) rfl oc1 bw1 (by (repeat (first | exact Below.refl _ _ | refine Below.drew ?_ | refine Below.alloc ?_ (by simp) _))) rfl (by first | (simp [go_sem]; done) | exact qx | fail) (by have := hl.out; omega) ?_; intro cv2 w2 oc2 bw2; have q5 := bw2.cell (p := ⟨bf, 0, none⟩) zbf; rw [q3] at q5; have zb2 : bf < w2.heap.size := Nat.lt_of_lt_of_le zbf bw2.size)
            | (go_simp; go_at_call 51; refine (Clone_any _ (HUR.out.below (by (repeat (first | exact Below.refl _ _ | refine Below.drew ?_ | refine Below.alloc ?_ (by simp) _)))) (by have := hl.out; omega)).mono ?_; rintro e w1 ⟨cv, rfl, oc, b1⟩; have bw1 := below_of (a := wr) (by (repeat (first | exact Below.refl _ _ | refine Below.drew ?_ | refine Below.alloc ?_ (by simp) _))) b1; have oc1 := oc.lower (base' := wr.heap.size) (by simp); have q4 := bw1.cell (p := ⟨bf, 0, none⟩) zbf; rw [q3] at q4; have zb1 : bf < w1.heap.size := Nat.lt_of_lt_of_le zbf bw1.size; try (have qx := b1.cell (p := ⟨wr.heap.size, 0, none⟩) (by first | (simp; done) | fail); simp [go_sem] at qx))
            | (go_simp; go_at_call 49; refine (ih (l ++ [(x : Int)]) _ _ (xss ++ colN q part es f l x) wr.heap.size _ (Lib.hid (by have := hl.out; rw [List.length_append]; simp; omega)) (HBX1.out.below bw2) (HOW1.out.below bw2) (oc2.lower (Nat.le_trans hbase HFE.out.size)) (Lib.hid fun g hg => (oc2.lt g hg).1) (by rw [List.length_append]; omega) (Nat.le_trans hbase (Nat.le_trans HFE.out.size bw2.size)) (hWr.trans (bw2.mono hWr.size))).mono ?_; rintro e w3 ⟨v3, rfl, x3, o3, f3⟩))
          all_goals
            have HX3 := Lib.hid x3
            have HO3 := Lib.hid o3
            have HF3 := Lib.hid ((HFE.out.trans (Fe.of_below bw2)).trans f3)
            have r0 := x3.q0.get 0 _ rfl
            clear x3 o3 f3
            go_wp2
            go_roundw
            case rel => exact ⟨x + 1, v3, by omega, by go_num, HX3.out, by rw [colN_yes HM.out, ← List.append_assoc]; exact HO3.out, HF3.out⟩
            case measure => simp [intOf]; omega
        · by_cases heq : pc0 = (x : Int)
          · have hok := okP_yes (part := part) (i := l.length) (c := (x : Int)) (.inr (by rw [HGD.out]; exact heq))
            have hle := hmo.out (x + 1) q (by omega)
            rw [colN_yes hok, List.length_append] at hle
            have HM := Lib.hid hok
            have t1 : (pc0 == (x : Int)) = true := by simp [heq]
            clear hok heq
            go_wp2_with fail
            go_region_law (first
              | (refine step_appI (w0 := wr) (w1 := w1) rfl (.tmp 41) (.tmp 43) rfl (y := (x : Int)) rfl oc1 bw1 (by (repeat (first | exact Below.refl _ _ | refine Below.drew ?_ | refine Below.alloc ?_ (by simp) _))) rfl (by first | (simp [go_sem]; done) | exact qx | fail) (by have := hl.out; omega) ?_; intro cv2 w2 oc2 bw2; have q5 := bw2.cell (p := ⟨bf, 0, none⟩) zbf; rw [q3] at q5; have zb2 : bf < w2.heap.size := Nat.lt_of_lt_of_le zbf bw2.size)
              | (go_simp; go_at_call 51; refine (Clone_any _ (HUR.out.below (by (repeat (first | exact Below.refl _ _ | refine Below.drew ?_ | refine Below.alloc ?_ (by simp) _)))) (by have := hl.out; omega)).mono ?_; rintro e w1 ⟨cv, rfl, oc, b1⟩; have bw1 := below_of (a := wr) (by (repeat (first | exact Below.refl _ _ | refine Below.drew ?_ | refine Below.alloc ?_ (by simp) _))) b1; have oc1 := oc.lower (base' := wr.heap.size) (by simp); have q4 := bw1.cell (p := ⟨bf, 0, none⟩) zbf; rw [q3] at q4; have zb1 : bf < w1.heap.size := Nat.lt_of_lt_of_le zbf bw1.size; try (have qx := b1.cell (p := ⟨wr.heap.size, 0, none⟩) (by first | (simp; done) | fail); simp [go_sem] at qx))
              | (go_simp; go_at_call 49; refine (ih (l ++ [(x : Int)]) _ _ (xss ++ colN q part es f l x) wr.heap.size _ (Lib.hid (by have := hl.out; rw [List.length_append]; simp; omega)) (HBX1.out.below bw2) (HOW1.out.below bw2) (oc2.lower (Nat.le_trans hbase HFE.out.size)) (Lib.hid fun g hg => (oc2.lt g hg).1) (by rw [List.length_append]; omega) (Nat.le_trans hbase (Nat.le_trans HFE.out.size bw2.size)) (hWr.trans (bw2.mono hWr.size))).mono ?_; rintro e w3 ⟨v3, rfl, x3, o3, f3⟩))
            all_goals
              have HX3 := Lib.hid x3
              have HO3 := Lib.hid o3
              have HF3 := Lib.hid ((HFE.out.trans (Fe.of_below bw2)).trans f3)
              have r0 := x3.q0.get 0 _ rfl
              clear x3 o3 f3
              go_wp2
              go_roundw
              case rel => exact ⟨x + 1, v3, by omega, by go_num, HX3.out, by rw [colN_yes HM.out, ← List.append_assoc]; exact HO3.out, HF3.out⟩
              case measure => simp [intOf]; omega
          · have hok := okP_no (part := part) (i := l.length) (c := (x : Int)) (by rw [HGD.out]; exact hneg) (by rw [HGD.out]; exact heq)
            have HM := Lib.hid hok
            have t1 : (pc0 == (x : Int)) = false := by simp [heq]
            clear hok heq
            go_wp2
            go_roundw
            case rel => exact ⟨x + 1, v', by omega, by go_num, HBX1.out, by rw [colN_no HM.out]; exact HX.out, HFE.out⟩
            case measure => simp [intOf]; omega
      · obtain rfl : x = q := by omega
        go_wp2
        refine bodyPost_end (v := .tuple #[]) (by simp [results, Try.results49, go_sem]) rfl ?_
        exact ⟨v', rfl, hbx, hown, hfe⟩
end Go.Proofs.Ytmhpbkckmjdojaa
