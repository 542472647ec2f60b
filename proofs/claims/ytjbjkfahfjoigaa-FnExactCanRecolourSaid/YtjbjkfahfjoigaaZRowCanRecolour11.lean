/-
  Recolour, both sides. With it: All colourings with a part, by search in depth: the program's. The program's decks; DeckAt and DeckNumber, both sides. DeckAt and DeckNumber, both sides. Free colours of a node, both sides. Free colours, the reference's; FreeColours, both sides.
-/
import Derived.Test.YtjbjkfahfjoigaaZRowCanRecolour9
import Derived.Test.YtjbjkfahfjoigaaZRowCanRecolour10
import Derived.Test.YtjbjkfahfjoigaaZRowCanRecolour4
import Derived.Laws.EntriesVeiled
import Derived.Test.YtjbjkfahfjoigaaZRowCanRecolour6
import Derived.Test.YtjbjkfahfjoigaaZRowCanRecolour5
set_option linter.unusedVariables false
set_option linter.unusedSimpArgs false
namespace Go.Proofs.Ytjbjkfahfjoigaa
open Go.RowKit Go.Sort
def okP (part : List Int) (i : Nat) (c : Int) : Bool := decide (part.getD i 0 < 0) || decide (part.getD i 0 = c)
/-- f colours still to come -/
def colD (q : Nat) (part : List Int) (es : List (List Int)) : Nat → List Int → List (List Int)
  | 0, l => if properB es l = true then [l] else []
  | f + 1, l => ((upTo q).filter (fun c => okP part l.length c)).flatMap fun c => colD q part es f (l ++ [c])
def colN (q : Nat) (part : List Int) (es : List (List Int)) (f : Nat) (l : List Int) (x : Nat) : List (List Int) := ((upTo x).filter (fun c => okP part l.length c)).flatMap fun c => colD q part es f (l ++ [c])
theorem colN_no {q f x : Nat} {part : List Int} {es : List (List Int)} {l : List Int} (h : okP part l.length x = false) : colN q part es f l (x + 1) = colN q part es f l x := by
  unfold colN; rw [upTo_succ, List.filter_append]; simp [h]
theorem colN_yes {q f x : Nat} {part : List Int} {es : List (List Int)} {l : List Int} (h : okP part l.length x = true) : colN q part es f l (x + 1) = colN q part es f l x ++ colD q part es f (l ++ [(x : Int)]) := by
  unfold colN; rw [upTo_succ, List.filter_append]; simp [h]
theorem colN_mono (q f : Nat) (part : List Int) (es : List (List Int)) (l : List Int) : ∀ x y, x ≤ y → (colN q part es f l x).length ≤ (colN q part es f l y).length := by
  intro x y h
  induction h with
  | refl => exact Nat.le_refl _
  | step _ ih =>
    rename_i k _
    cases hm : okP part l.length k
    · rw [colN_no hm]; exact ih
    · rw [colN_yes hm, List.length_append]; omega
theorem CellsAt.blk {w w' : World} {b : Nat} {vs : List Value} (h : CellsAt w b vs) (hs : w.heap.size ≤ w'.heap.size) (hb : w'.heap[b]? = w.heap[b]?) : CellsAt w' b vs :=
  ⟨Nat.lt_of_lt_of_le h.1 hs, fun i u hu => by rw [World.cell?_of_block hb]; exact h.2 i u hu⟩
/-- the boxes of the search -/
structure ColBox (w : World) (bg bq bp bo bf m q : Nat) (gv pv v : Value) : Prop where
  g0 : CellsAt w bg [.int .i64 m, gv]
  q0 : CellsAt w bq [.int .i64 q]
  p0 : CellsAt w bp [pv]
  o0 : w.cell? ⟨bo, 0, none⟩ = some v
  fo : w.frozen? ⟨bo, 0, none⟩ = false
  f0 : w.cell? ⟨bf, 0, none⟩ = some (.func (.func 81) #[] #[.pointer (some ⟨bg, 0, none⟩), .pointer (some ⟨bo, 0, none⟩), .pointer (some ⟨bq, 0, none⟩), .pointer (some ⟨bp, 0, none⟩), .pointer (some ⟨bf, 0, none⟩)])
  nf : ¬ isE 42 w bf
  no : ¬ isE 42 w bo
  no2 : ¬ isE 2 w bo
variable {bg bq bp bo bf m q : Nat} {gv pv v : Value}
theorem ColBox.blk {w w' : World} (h : ColBox w bg bq bp bo bf m q gv pv v) (hs : w.heap.size ≤ w'.heap.size) (h1 : w'.heap[bg]? = w.heap[bg]?) (h2 : w'.heap[bq]? = w.heap[bq]?) (h3 : w'.heap[bp]? = w.heap[bp]?) (h4 : w'.heap[bo]? = w.heap[bo]?) (h5 : w'.heap[bf]? = w.heap[bf]?) : ColBox w' bg bq bp bo bf m q gv pv v :=
  ⟨h.g0.blk hs h1, h.q0.blk hs h2, h.p0.blk hs h3, by rw [World.cell?_of_block h4]; exact h.o0, by have := h.fo; simpa [World.frozen?, h4] using this, by rw [World.cell?_of_block h5]; exact h.f0, by rw [isE_same h5]; exact h.nf, by rw [isE_same h4]; exact h.no, by rw [isE_same h4]; exact h.no2⟩
theorem ColBox.below {w w' : World} (h : ColBox w bg bq bp bo bf m q gv pv v) (hb : Below w.heap.size w w') : ColBox w' bg bq bp bo bf m q gv pv v :=
  h.blk hb.size (hb.block _ h.g0.1) (hb.block _ h.q0.1) (hb.block _ h.p0.1) (hb.block _ (cell_lt h.o0)) (hb.block _ (cell_lt h.f0))
theorem ColBox.set {w : World} (h : ColBox w bg bq bp bo bf m q gv pv v) (h1 : bg ≠ bo) (h2 : bq ≠ bo) (h3 : bp ≠ bo) (h4 : bf ≠ bo) (u : Value) : ColBox (w.setCell ⟨bo, 0, none⟩ u) bg bq bp bo bf m q gv pv u := by
  have hs : w.heap.size ≤ (w.setCell ⟨bo, 0, none⟩ u).heap.size := by simp
  have e1 := heap_setCell_other w ⟨bo, 0, none⟩ bg u h1
  have e2 := heap_setCell_other w ⟨bo, 0, none⟩ bq u h2
  have e3 := heap_setCell_other w ⟨bo, 0, none⟩ bp u h3
  have e4 := heap_setCell_other w ⟨bo, 0, none⟩ bf u h4
  refine ⟨h.g0.blk hs e1, h.q0.blk hs e2, h.p0.blk hs e3, ?_, ?_, ?_, fun he => h.nf (isE_set he), fun he => h.no (isE_set he), fun he => h.no2 (isE_set he)⟩
  · simp [go_sem, h.o0]
  · simpa using h.fo
  · rw [World.cell?_of_block e4]; exact h.f0
/-- what a search leaves -/
def ColP (w : World) (base bg bq bp bo bf m q : Nat) (gv pv : Value) (xss ys : List (List Int)) (e : Ending) (w' : World) : Prop :=
  ∃ v', e = .returned (.tuple #[]) ∧ ColBox w' bg bq bp bo bf m q gv pv v' ∧ OwnII w' base v' (xss ++ ys) ∧ Fe base bo 42 w w'
set_option maxRecDepth 100000 in
set_option maxHeartbeats 2000000 in
theorem col_leaf {u : Value} {xss es : List (List Int)} {l : List Int} (base B : Nat) (w : World) (hbx : ColBox w bg bq bp bo bf m q gv pv v) (h1 : bg < base) (h2 : bq < base) (h3 : bp < base) (h4 : base ≤ bo) (h5 : bf ≠ bo)
    (hes : SlII w gv es) (hE : EdgesB m es) (hown : OwnIIB w base B v xss) (hu : OwnI w base u l) (hB : ∀ g, u.ownBlock = some g → B ≤ g) (hl : l.length = m) (hs : xss.length ≤ 5000) (hbase : base ≤ w.heap.size) (hm : m ≤ 100) (ys : List (List Int)) (hys : Hid (ys = if properB es l = true then [l] else [])) :
    Calls Try.prog 81 #[u, .pointer (some ⟨bg, 0, none⟩), .pointer (some ⟨bo, 0, none⟩), .pointer (some ⟨bq, 0, none⟩), .pointer (some ⟨bp, 0, none⟩), .pointer (some ⟨bf, 0, none⟩)] w (ColP w base bg bq bp bo bf m q gv pv xss ys) := by
  obtain ⟨ua, uc, rfl, _⟩ := id hu.sl
  obtain ⟨ga, gc, gus, rfl, _⟩ := id hes
  obtain ⟨va, vc, vvs, rfl, _⟩ := id hown.ii.sl
  obtain ⟨k0, _, _, o0, fo, _, _, _, _⟩ := id hbx
  have c0 := k0.get 0 _ rfl
  have c1 := k0.get 1 _ rfl
  have HE := Lib.hid hE
  have HBX := Lib.hid hbx
  have HB := Lib.hid hB
  have HL := Lib.hid hl
  have HO := Lib.hid hown
  have HU := Lib.hid hu
  have HES := Lib.hid hes
  have ht : ((l.length : Int) == (m : Int)) = true := by rw [HL.out]; simp
  have HN1 := Lib.hid (show bg ≠ bo by omega)
  have HN2 := Lib.hid (show bq ≠ bo by omega)
  have HN3 := Lib.hid (show bp ≠ bo by omega)
  have H5 := Lib.hid h5
  generalize hp : properB es l = P
  have HP := Lib.hid hp
  have HY : Hid (ys = if P = true then [l] else []) := by unfold Hid; rw [← hp]; exact hys.out
  clear hbx hown hu hB hl hes hE hp k0 h5
  go_enter Try.func81, Try.ntmps81
  go_wp2_with fail
  refine (isColouring_any m m _ HES.out HU.out.sl HE.out HL.out).mono ?_
  rintro e w1 ⟨rfl, b1⟩
  rw [HP.out]
  have HX1 := Lib.hid (HBX.out.below b1)
  cases P
  · go_wp2
    exact bodyPost_ret (v := .tuple #[]) (by simp [results, Try.results81, go_sem]) rfl ⟨_, rfl, HX1.out, by rw [HY.out]; simpa using HO.out.ii.below b1, Fe.of_below b1⟩
  · have o1 := HX1.out.o0
    have f1 := HX1.out.fo
    have zo := cell_lt o1
    have bx : Below w1.heap.size w1 (w1.alloc (.cells #[.slice ua l.length uc] 42)) := (Below.refl _ _).alloc (Nat.le_refl _) _
    have HO1 := Lib.hid ((HO.out.below b1).below bx)
    have HU1 := Lib.hid ((HU.out.below b1).below bx)
    have hz1 := b1.size
    have B1 := Lib.hid b1
    clear b1 c0 c1 o0 fo
    go_wp2_with (at_builtin; refine listAppRow _ _ _ rfl rfl rfl HO1.out HU1.out HB.out rfl (by simp [go_sem]) (by omega) (by simp; omega) ?_)
    intro v' w2 o2 g2
    have n1 : ∀ k, ¬ isE 42 w1 k ∨ k < base → k < w1.heap.size → w2.heap[k]? = w1.heap[k]? := fun k hk hl => by
      rw [g2.block k (by simp; omega) (fun h => by
        rcases hk with hk | hk
        · obtain ⟨vs, h1, _⟩ := HO1.out
          exact hk ((isE_same (bx.block k hl)).1 (own_isE h1 h.symm))
        · have := (HO1.out.lt k h.symm).1; omega), bx.block k hl]
    have hz2 : w1.heap.size ≤ w2.heap.size := by have := g2.size; simp at this; omega
    have x2 := HX1.out.blk hz2 (n1 _ (.inr h1) HX1.out.g0.1) (n1 _ (.inr h2) HX1.out.q0.1) (n1 _ (.inr h3) HX1.out.p0.1) (n1 _ (.inl HX1.out.no) zo) (n1 _ (.inl HX1.out.nf) (cell_lt HX1.out.f0))
    have p0 := x2.o0
    have po := x2.fo
    obtain ⟨va', n', vc', rfl, _⟩ := o2.form
    have e2 : Fe base bo 42 w w2 := ((Fe.of_below B1.out).trans (Fe.of_below bx)).trans (by obtain ⟨vs, h1, _⟩ := HO1.out; exact Fe.of_grown h1 g2)
    have HX2 := Lib.hid x2
    have E2 := Lib.hid e2
    have O2 := Lib.hid o2
    clear x2 o2 g2 n1 e2 o1 f1
    go_wp2
    exact bodyPost_ret (v := .tuple #[]) (by simp [results, Try.results81, go_sem]) rfl ⟨_, rfl, HX2.out.set HN1.out HN2.out HN3.out H5.out _, by rw [HY.out]; exact O2.out.set_ne (a := ⟨bo, 0, none⟩) HX2.out.no HX2.out.no2 _, E2.out.set rfl _⟩
theorem okP_yes {part : List Int} {i : Nat} {c : Int} (h : part.getD i 0 < 0 ∨ part.getD i 0 = c) : okP part i c = true := by unfold okP; simp only [Bool.or_eq_true, decide_eq_true_eq]; exact h
theorem okP_no {part : List Int} {i : Nat} {c : Int} (h1 : ¬ part.getD i 0 < 0) (h2 : ¬ part.getD i 0 = c) : okP part i c = false := by
  unfold okP
  rw [decide_eq_false h1, decide_eq_false h2]; rfl
set_option maxRecDepth 100000 in
set_option maxHeartbeats 8000000 in
theorem col_any {es : List (List Int)} {part : List Int} (W0 : World) (base : Nat) (h1 : bg < base) (h2 : bq < base) (h3 : bp < base) (h4 : base ≤ bo) (h5 : bf ≠ bo) (hW0 : W0.heap.size ≤ base) (hE : EdgesB m es) (hm : m ≤ 100) (hq : q ≤ 100) (hpl : part.length = m)
    (hes : Hid (∀ W, Below W0.heap.size W0 W → SlII W gv es)) (hpt : Hid (∀ W, Below W0.heap.size W0 W → SlI W pv part)) : ∀ (f : Nat) (l : List Int) (u v : Value) (xss : List (List Int)) (B : Nat) (w : World),
    Hid (l.length + f = m) → ColBox w bg bq bp bo bf m q gv pv v → OwnIIB w base B v xss → OwnI w base u l → Hid (∀ g, u.ownBlock = some g → B ≤ g) → xss.length + (colD q part es f l).length ≤ 5000 → base ≤ w.heap.size → Below W0.heap.size W0 w →
    Calls Try.prog 81 #[u, .pointer (some ⟨bg, 0, none⟩), .pointer (some ⟨bo, 0, none⟩), .pointer (some ⟨bq, 0, none⟩), .pointer (some ⟨bp, 0, none⟩), .pointer (some ⟨bf, 0, none⟩)] w (ColP w base bg bq bp bo bf m q gv pv xss (colD q part es f l)) := by
  intro f
  induction f with
  | zero =>
    intro l u v xss B w hl hbx hown hu hB hs hbase hW
    exact col_leaf base B w hbx h1 h2 h3 h4 h5 (hes.out _ hW) hE hown hu hB.out hl.out (by omega) hbase hm _ (Lib.hid rfl)
  | succ f ih =>
    intro l u v xss B w hl hbx hown hu hB hs hbase hW
    obtain ⟨k0, kq, kp, _, _, _, _, _, _⟩ := id hbx
    have c0 := k0.get 0 _ rfl
    have c1 := k0.get 1 _ rfl
    have cq := kq.get 0 _ rfl
    obtain ⟨ua, n, uc, rfl, hn⟩ := hu.form
    have hlc : l.length < m := by have := hl.out; omega
    have hncs : n < m := by rw [hn.out]; exact hlc
    have ht : ((n : Int) == (m : Int)) = false := by
      simp; omega
    have hmo := Lib.hid (colN_mono q f part es l)
    have hfull : colD q part es (f + 1) l = colN q part es f l q := rfl
    have HF := Lib.hid hfull
    rw [hfull] at hs ⊢
    have HU := Lib.hid hu
    have HOW := Lib.hid hown
    have HBX := Lib.hid hbx
    have HNN := Lib.hid hncs
    have HE := Lib.hid hE
    have HPL := Lib.hid hpl
    clear hu hown hbx hfull hncs hlc k0 kq kp hE hpl
    go_enter Try.func81, Try.ntmps81
    go_wp2
    clear c0 c1 cq
    go_loopw [8, 23] (fun _ i wr => ∃ (x : Nat) (v' : Value), x ≤ q ∧ i = .int .i64 x ∧ ColBox wr bg bq bp bo bf m q gv pv v' ∧ OwnII wr base v' (xss ++ colN q part es f l x) ∧ Fe base bo 42 w wr) (fun _ i _ => q - (intOf i).toNat)
    case atStart => exact ⟨0, v, Nat.zero_le _, rfl, HBX.out, by simpa [colN, upTo] using HOW.out.ii, Fe.refl _ _ _ _⟩
    case round =>
      obtain ⟨x, v', hx, rfl, hbx, hown, hfe⟩ := hrel
      have hur : OwnI wr base (.slice ua n uc) l := ownsRow_fe HU.out hfe (by decide) HBX.out.no2
      have hWr := hW.trans (hfe.below hW0 (Nat.le_trans hW0 h4) hW.size)
      by_cases hlt : x < q
      · have hnp : n < part.length := by rw [HPL.out]; exact HNN.out
        obtain ⟨pa, pc, rfl, _, _, pr⟩ := hpt.out _ hWr
        obtain ⟨pb, po, rfl, gp⟩ := pr.one (i64s_get hnp)
        have ip : (n : Int) < (part.length : Int) := by omega
        have hgd : part.getD l.length 0 = part[n] := by rw [← hn.out, getD_at hnp]
        generalize part[n] = pc0 at gp hgd
        have HGD := Lib.hid hgd
        obtain ⟨_, _, kp, _, q2, q3, _, _, _⟩ := id hbx
        have cp := kp.get 0 _ rfl
        have zbf := cell_lt q3
        have HBX1 := Lib.hid hbx
        have HOW1 := Lib.hid hown.b
        have HUR := Lib.hid hur.sl
        have HFE := Lib.hid hfe
        have HX := Lib.hid (show OwnII wr base v' (xss ++ colN q part es f l x) from hown)
        clear hbx hown hfe hgd pr kp hur
        by_cases hneg : pc0 < 0
        · have hok := okP_yes (part := part) (i := l.length) (c := (x : Int)) (.inl (by rw [HGD.out]; exact hneg))
          have hle := hmo.out (x + 1) q (by omega)
          rw [colN_yes hok, List.length_append] at hle
          have HM := Lib.hid hok
          clear hok
          go_wp2_with fail
          go_region_law (first
            | (refine step_appI (w0 := wr) (w1 := w1) rfl (.tmp 41) (.tmp 43) rfl (y := (x : Int)) rfl oc1 bw1 (by (repeat (first | exact Below.refl _ _ | refine Below.drew ?_ | refine Below.alloc ?_ (by simp) _))) rfl (by first | (simp [go_sem]; done) | exact qx | fail) (by have := hl.out; omega) ?_; intro cv2 w2 oc2 bw2; have q5 := bw2.cell (p := ⟨bf, 0, none⟩) zbf; rw [q3] at q5; have zb2 : bf < w2.heap.size := Nat.lt_of_lt_of_le zbf bw2.size)
            | (go_simp; go_at_call 45; refine (Clone_any _ (HUR.out.below (by (repeat (first | exact Below.refl _ _ | refine Below.drew ?_ | refine Below.alloc ?_ (by simp) _)))) (by have := hl.out; omega)).mono ?_; rintro e w1 ⟨cv, rfl, oc, b1⟩; have bw1 := below_of (a := wr) (by (repeat (first | exact Below.refl _ _ | refine Below.drew ?_ | refine Below.alloc ?_ (by simp) _))) b1; have oc1 := oc.lower (base' := wr.heap.size) (by simp); have q4 := bw1.cell (p := ⟨bf, 0, none⟩) zbf; rw [q3] at q4; have zb1 : bf < w1.heap.size := Nat.lt_of_lt_of_le zbf bw1.size; try (have qx := b1.cell (p := ⟨wr.heap.size, 0, none⟩) (by first | (simp; done) | fail); simp [go_sem] at qx))
            | (go_simp; go_at_call 81; refine (ih (l ++ [(x : Int)]) _ _ (xss ++ colN q part es f l x) wr.heap.size _ (Lib.hid (by have := hl.out; rw [List.length_append]; simp; omega)) (HBX1.out.below bw2) (HOW1.out.below bw2) (oc2.lower (Nat.le_trans hbase HFE.out.size)) (Lib.hid fun g hg => (oc2.lt g hg).1) (by rw [List.length_append]; omega) (Nat.le_trans hbase (Nat.le_trans HFE.out.size bw2.size)) (hWr.trans (bw2.mono hWr.size))).mono ?_; rintro e w3 ⟨v3, rfl, x3, o3, f3⟩))
          all_goals
            have HX3 := Lib.hid x3
            have HO3 := Lib.hid o3
            have HF3 := Lib.hid ((HFE.out.trans (Fe.of_below bw2)).trans f3)
            have r0 := x3.q0.get 0 _ rfl
            clear x3 o3 f3
            go_wp2
            go_roundw
            case rel => exact ⟨x + 1, v3, by omega, by go_num, HX3.out, by rw [colN_yes HM.out, ← List.append_assoc]; exact HO3.out, HF3.out⟩
            case measure => simp [intOf]; omega
        · by_cases heq : pc0 = (x : Int)
          · have hok := okP_yes (part := part) (i := l.length) (c := (x : Int)) (.inr (by rw [HGD.out]; exact heq))
            have hle := hmo.out (x + 1) q (by omega)
            rw [colN_yes hok, List.length_append] at hle
            have HM := Lib.hid hok
            have t1 : (pc0 == (x : Int)) = true := by simp [heq]
            clear hok heq
            go_wp2_with fail
            go_region_law (first
              | (refine step_appI (w0 := wr) (w1 := w1) rfl (.tmp 41) (.tmp 43) rfl (y := (x : Int)) rfl oc1 bw1 (by (repeat (first | exact Below.refl _ _ | refine Below.drew ?_ | refine Below.alloc ?_ (by simp) _))) rfl (by first | (simp [go_sem]; done) | exact qx | fail) (by have := hl.out; omega) ?_; intro cv2 w2 oc2 bw2; have q5 := bw2.cell (p := ⟨bf, 0, none⟩) zbf; rw [q3] at q5; have zb2 : bf < w2.heap.size := Nat.lt_of_lt_of_le zbf bw2.size)
              | (go_simp; go_at_call 45; refine (Clone_any _ (HUR.out.below (by (repeat (first | exact Below.refl _ _ | refine Below.drew ?_ | refine Below.alloc ?_ (by simp) _)))) (by have := hl.out; omega)).mono ?_; rintro e w1 ⟨cv, rfl, oc, b1⟩; have bw1 := below_of (a := wr) (by (repeat (first | exact Below.refl _ _ | refine Below.drew ?_ | refine Below.alloc ?_ (by simp) _))) b1; have oc1 := oc.lower (base' := wr.heap.size) (by simp); have q4 := bw1.cell (p := ⟨bf, 0, none⟩) zbf; rw [q3] at q4; have zb1 : bf < w1.heap.size := Nat.lt_of_lt_of_le zbf bw1.size; try (have qx := b1.cell (p := ⟨wr.heap.size, 0, none⟩) (by first | (simp; done) | fail); simp [go_sem] at qx))
              | (go_simp; go_at_call 81; refine (ih (l ++ [(x : Int)]) _ _ (xss ++ colN q part es f l x) wr.heap.size _ (Lib.hid (by have := hl.out; rw [List.length_append]; simp; omega)) (HBX1.out.below bw2) (HOW1.out.below bw2) (oc2.lower (Nat.le_trans hbase HFE.out.size)) (Lib.hid fun g hg => (oc2.lt g hg).1) (by rw [List.length_append]; omega) (Nat.le_trans hbase (Nat.le_trans HFE.out.size bw2.size)) (hWr.trans (bw2.mono hWr.size))).mono ?_; rintro e w3 ⟨v3, rfl, x3, o3, f3⟩))
            all_goals
              have HX3 := Lib.hid x3
              have HO3 := Lib.hid o3
              have HF3 := Lib.hid ((HFE.out.trans (Fe.of_below bw2)).trans f3)
              have r0 := x3.q0.get 0 _ rfl
              clear x3 o3 f3
              go_wp2
              go_roundw
              case rel => exact ⟨x + 1, v3, by omega, by go_num, HX3.out, by rw [colN_yes HM.out, ← List.append_assoc]; exact HO3.out, HF3.out⟩
              case measure => simp [intOf]; omega
          · have hok := okP_no (part := part) (i := l.length) (c := (x : Int)) (by rw [HGD.out]; exact hneg) (by rw [HGD.out]; exact heq)
            have HM := Lib.hid hok
            have t1 : (pc0 == (x : Int)) = false := by simp [heq]
            clear hok heq
            go_wp2
            go_roundw
            case rel => exact ⟨x + 1, v', by omega, by go_num, HBX1.out, by rw [colN_no HM.out]; exact HX.out, HFE.out⟩
            case measure => simp [intOf]; omega
      · obtain rfl : x = q := by omega
        go_wp2
        refine bodyPost_end (v := .tuple #[]) (by simp [results, Try.results81, go_sem]) rfl ?_
        exact ⟨v', rfl, hbx, hown, hfe⟩
end Go.Proofs.Ytjbjkfahfjoigaa
namespace Go.Proofs.Ytjbjkfahfjoigaa
open Go.RowKit Go.Sort
theorem isE_old {E : Nat} {w : World} {o : Obj} {k : Nat} (h : k < w.heap.size) : isE E (w.alloc o) k ↔ isE E w k := by
  refine isE_same ?_
  show (w.heap.push o)[k]? = _
  rw [Array.getElem?_push, if_neg (by omega)]
theorem not_isE_at {E T : Nat} {w : World} {cs : Array Value} {k : Nat} (hk : k = w.heap.size) (h : T ≠ E) : ¬ isE E (w.alloc (.cells cs T)) k := by
  rintro ⟨c, f, he⟩
  subst hk
  have : (w.heap.push (.cells cs T))[w.heap.size]? = some (.cells c E f) := he
  rw [Array.getElem?_push, if_pos rfl] at this
  simp at this
  exact h this.2.1
set_option maxRecDepth 100000 in
set_option maxHeartbeats 1000000 in
theorem decks_any (c : Nat) (w : World) (h1 : 1 ≤ c) (h3 : c ≤ 3) :
    Calls Try.prog 20 #[.int .i64 c] w fun e w' => ∃ v, e = .returned v ∧ OwnII w' w.heap.size v (decksL c c) ∧ Below w.heap.size w w' := by
  have hmf : ∀ (fn : Fn) (first cap : Array Value) (w : World), (Instr.makeFunc fn first cap).run Try.prog w = .ok (.func fn first cap) w := fun _ _ _ _ => rfl
  have HS := Lib.hid (decks_small h1 h3 (Nat.le_refl c)).1
  have hbx : DfsBox ((((w.alloc (.cells #[.int .i64 c] 2)).alloc (.cells #[] 42)).alloc (.cells #[.slice (some ⟨w.heap.size + 1, 0, none⟩) 0 0] 22)).alloc (.cells #[.func (.func 43) #[] #[.pointer (some ⟨w.heap.size, 0, none⟩), .pointer (some ⟨w.heap.size + 1 + 1, 0, none⟩), .pointer (some ⟨w.heap.size + 1 + 1 + 1, 0, none⟩)]] 71)) w.heap.size (w.heap.size + 1 + 1) (w.heap.size + 1 + 1 + 1) c (.slice (some ⟨w.heap.size + 1, 0, none⟩) 0 0) := by
    refine ⟨?_, ?_, ?_, ?_, ?_, ?_, ?_, ?_⟩
    · simp [go_sem]
    · simp [go_sem]
    · simp [go_sem]
    · simp [go_sem]
    all_goals (repeat (first | exact not_isE_at (by first | (simp; done) | fail) (by decide) | rw [isE_old (by first | (simp; done) | (simp; omega) | fail)]))
  have hown : OwnII ((((w.alloc (.cells #[.int .i64 c] 2)).alloc (.cells #[] 42)).alloc (.cells #[.slice (some ⟨w.heap.size + 1, 0, none⟩) 0 0] 22)).alloc (.cells #[.func (.func 43) #[] #[.pointer (some ⟨w.heap.size, 0, none⟩), .pointer (some ⟨w.heap.size + 1 + 1, 0, none⟩), .pointer (some ⟨w.heap.size + 1 + 1 + 1, 0, none⟩)]] 71)) (w.heap.size + 1) (.slice (some ⟨w.heap.size + 1, 0, none⟩) 0 0) [] := by
    have h0 := OwnII.empty (w.alloc (.cells #[.int .i64 c] 2)) (base := w.heap.size + 1) (by simp)
    rw [show (w.alloc (.cells #[.int .i64 c] 2)).heap.size = w.heap.size + 1 by simp] at h0
    exact (h0.below ((Below.refl _ _).alloc (Nat.le_refl _) _)).below ((Below.refl _ _).alloc (Nat.le_refl _) _)
  have bw : Below w.heap.size w ((((w.alloc (.cells #[.int .i64 c] 2)).alloc (.cells #[] 42)).alloc (.cells #[.slice (some ⟨w.heap.size + 1, 0, none⟩) 0 0] 22)).alloc (.cells #[.func (.func 43) #[] #[.pointer (some ⟨w.heap.size, 0, none⟩), .pointer (some ⟨w.heap.size + 1 + 1, 0, none⟩), .pointer (some ⟨w.heap.size + 1 + 1 + 1, 0, none⟩)]] 71)) := ((((Below.refl _ _).alloc (Nat.le_refl _) _).alloc (by simp) _).alloc (by simp; omega) _).alloc (by simp; omega) _
  have HBX := Lib.hid hbx
  have HOW := Lib.hid hown.b
  have HBW := Lib.hid bw
  clear hbx hown bw
  go_enter Try.func20, Try.ntmps20
  go_wp2_with fail
  refine (dfs_any (w.heap.size + 1) _ _ _ c (by omega) (by omega) (by omega) c [] _ _ [] _ _ (Lib.hid (by simp)) HBX.out HOW.out (OwnI.nil _ _) (Lib.hid (fun g hg => by simp [Value.ownBlock] at hg)) (by rw [dfsL_decks c h1 h3]; have := HS.out; simp; omega) (by simp)).mono ?_
  rintro e w1 ⟨v1, rfl, x1, o1, f1⟩
  rw [List.nil_append, dfsL_decks c h1 h3] at o1
  obtain ⟨r0, q0, _, _, _, _, _, _⟩ := id x1
  obtain ⟨va, n, vc, rfl, _⟩ := o1.form
  have HF := Lib.hid f1
  clear x1 f1
  go_wp2
  go_ret
  exact ⟨_, rfl, o1.lower (by omega), HBW.out.trans (HF.out.below (by omega) (by omega) (by simp; omega))⟩
end Go.Proofs.Ytjbjkfahfjoigaa
namespace Go.Proofs.Ytjbjkfahfjoigaa
open Go.RowKit Go.Sort
theorem OwnII.rowAt {w : World} {base : Nat} {ad : Option Addr} {n c : Nat} {xss : List (List Int)} (h : OwnII w base (.slice ad n c) xss) {i : Nat} (hi : i < xss.length) :
    ∃ b off u, ad = some ⟨b, off, none⟩ ∧ w.cell? ⟨b, off + i, none⟩ = some u ∧ OwnI w base u xss[i] := by
  obtain ⟨vs, h1, h2⟩ := h
  obtain ⟨ad', c', he, _, _, hr⟩ := ownsRow_rd h1
  simp at he
  obtain ⟨rfl, _, rfl⟩ := he
  have hv : i < vs.length := by rw [h2.1]; exact hi
  obtain ⟨b, off, e1, e2⟩ := hr.one (List.getElem?_eq_getElem hv)
  exact ⟨b, off, vs[i], e1, e2, h2.2.1 i _ _ (List.getElem?_eq_getElem hv) (List.getElem?_eq_getElem hi)⟩
def tupVC (v : Value) (c : Int) : Value := .tuple #[v, .int .i64 c]
def deckAtR (cards number : Int) : List Int × Int :=
  if inR cards 1 3 = true then (if inR number 0 ((decksL cards.toNat cards.toNat).length - 1) = true then ((decksL cards.toNat cards.toNat).getD number.toNat [], 0) else ([], 2)) else ([], 2)
/-- a fresh []int64 and a code -/
def FreshIC (w : World) (R : List Int × Int) (e : Ending) (w' : World) : Prop := ∃ v, e = .returned (tupVC v R.2) ∧ OwnI w' w.heap.size v R.1 ∧ Below w.heap.size w w'
theorem deckAtR_len (a b : Int) : (deckAtR a b).1.length ≤ 3 := by
  unfold deckAtR
  split
  · rename_i h
    split
    · have h1 := inR_iff.1 h
      obtain ⟨n, rfl⟩ := Int.eq_ofNat_of_zero_le (show 0 ≤ a by omega)
      have := (decks_small (c := n) (k := n) (by omega) (by omega) (Nat.le_refl _)).2
      rw [Int.toNat_natCast]
      dsimp only
      by_cases hb : b.toNat < (decksL n n).length
      · rw [List.getD_eq_getElem?_getD, List.getElem?_eq_getElem hb]
        have := this _ (List.getElem_mem hb)
        simp; omega
      · rw [List.getD_eq_getElem?_getD, List.getElem?_eq_none (by omega)]; simp
    · simp
  · simp
theorem findFrom_ix (D : List (List Int)) (x : List Int) : ∀ k, ixRow (fun y => decide (x = y)) D k = findFrom D x k := by
  induction D with
  | nil => intro k; rfl
  | cons y r ih =>
    intro k
    unfold ixRow findFrom
    rw [ih (k + 1)]
    by_cases h : x = y
    · subst h; simp
    · have h2 : ¬ y = x := fun e => h e.symm
      simp [h, h2]
set_option maxHeartbeats 1000000 in
theorem deckIndex_any {u : Value} {xs : List Int} (w : World) (ha : SlI w u xs) (h1 : 1 ≤ xs.length) (h3 : xs.length ≤ 3) :
    Calls Try.prog 22 #[u] w fun e w' => e = .returned (.int .i64 (findFrom (decksL xs.length xs.length) xs 0)) ∧ Below w.heap.size w w' := by
  have hmf : ∀ (fn : Fn) (first cap : Array Value) (w : World), (Instr.makeFunc fn first cap).run Try.prog w = .ok (.func fn first cap) w := fun _ _ _ _ => rfl
  have HA := Lib.hid (fun W (h : Below w.heap.size w W) => ha.below h)
  have HX := Lib.hid (findFrom_ix (decksL xs.length xs.length) xs 0)
  obtain ⟨a, c, rfl, _⟩ := id ha
  have bx : Below w.heap.size w (w.alloc (.cells #[.slice a xs.length c] 42)) := (Below.refl _ _).alloc (Nat.le_refl _) _
  have hbd := ixRow_bd (fun y => decide (xs = y)) (decksL xs.length xs.length) 0
  have hsm := (decks_small h1 h3 (Nat.le_refl _)).1
  have X := Lib.hid (CellsAt.new w [.slice a xs.length c] 42)
  clear ha
  go_enter Try.func22, Try.ntmps22
  go_wp2_with fail
  refine (decks_any xs.length _ h1 h3).mono ?_
  rintro e w1 ⟨v, rfl, o1, b1⟩
  have hb1 := bx.trans (b1.mono bx.size)
  have X1 := Lib.hid (X.out.below b1)
  go_wp2_with fail
  refine (IndexFuncDeck_any _ (fun y => decide (xs = y)) _ o1.sl (fun W y u hW _ hu => ?_)).mono ?_
  · have c0 := (X1.out.below hW).get 0 _ rfl
    have hd := HA.out W (hb1.trans (hW.mono hb1.size))
    go_enter Try.func51, Try.ntmps51
    go_wp2_with fail
    refine (Equal_any _ hd hu).mono ?_
    rintro e w2 ⟨rfl, b2⟩
    go_wp2
    go_ret
    exact ⟨rfl, b2⟩
  · rintro e w2 ⟨rfl, b2⟩
    go_wp2
    go_ret
    exact ⟨ri HX.out, hb1.trans (b2.mono hb1.size)⟩
def deckNumR (x : List Int) : Int × Int := if findD x < 0 then (0, 2) else (findD x, 0)
end Go.Proofs.Ytjbjkfahfjoigaa
namespace Go.Proofs.Ytjbjkfahfjoigaa
open Go.RowKit Go.Sort
def neighE (node : Int) (e : List Int) : List Int := if node = e.getD 0 0 then [e.getD 1 0] else if node = e.getD 1 0 then [e.getD 0 0] else []
def neighL (es : List (List Int)) (node : Int) : List Int := es.flatMap (neighE node)
def takenB (es : List (List Int)) (cs : List Int) (node c : Int) : Bool := (neighL es node).any fun o => decide (cs.getD o.toNat 0 = c)
def freeL (es : List (List Int)) (cs : List Int) (node : Int) (k : Nat) : List Int := (upTo k).filter fun c => !takenB es cs node c
theorem freeL_yes {es : List (List Int)} {cs : List Int} {node : Int} {k : Nat} (h : takenB es cs node k = false) : freeL es cs node (k + 1) = freeL es cs node k ++ [(k : Int)] := by
  unfold freeL; rw [upTo_succ, List.filter_append]; simp [h]
theorem freeL_no {es : List (List Int)} {cs : List Int} {node : Int} {k : Nat} (h : takenB es cs node k = true) : freeL es cs node (k + 1) = freeL es cs node k := by
  unfold freeL; rw [upTo_succ, List.filter_append]; simp [h]
theorem freeL_length (es : List (List Int)) (cs : List Int) (node : Int) (k : Nat) : (freeL es cs node k).length ≤ k := by
  unfold freeL; refine Nat.le_trans (List.length_filter_le _ _) ?_; rw [upTo_length]; exact Nat.le_refl _
theorem neighE_len (node : Int) (e : List Int) : (neighE node e).length ≤ 1 := by
  unfold neighE
  split
  · simp
  · split <;> simp
theorem flat_len {l : List (List Int)} {f : List Int → List Int} (h : ∀ x, (f x).length ≤ 1) : (l.flatMap f).length ≤ l.length := by
  induction l with
  | nil => simp
  | cons x r ih => rw [List.flatMap_cons, List.length_append, List.length_cons]; have := h x; omega
theorem flat_take_succ {l : List (List Int)} {f : List Int → List Int} {k : Nat} (h : k < l.length) : (l.take (k + 1)).flatMap f = (l.take k).flatMap f ++ f l[k] := by
  rw [List.take_succ_eq_append_getElem h, List.flatMap_append]; simp
theorem neighE_two (node : Int) (p q : Nat) : neighE node [(p : Int), (q : Int)] = if node = (p : Int) then [(q : Int)] else if node = (q : Int) then [(p : Int)] else [] := rfl
theorem neighE_mem {node o : Int} {p q : Nat} (hpq : p < q) : o ∈ neighE node [(p : Int), (q : Int)] ↔ nearE node o [(p : Int), (q : Int)] = true := by
  rw [neighE_two, nearE_two]
  split
  · rename_i h; subst h; simp; constructor
    · intro h; left; exact h.symm
    · rintro (h | ⟨h1, h2⟩)
      · exact h.symm
      · omega
  · rename_i h
    split
    · rename_i h2; subst h2; simp; constructor
      · intro h3; right; exact h3.symm
      · rintro (⟨h3, _⟩ | h3)
        · omega
        · exact h3.symm
    · rename_i h2
      simp
      omega
theorem neigh_in {m : Nat} {es : List (List Int)} (hE : EdgesB m es) {node o : Int} (h : o ∈ neighL es node) : ∃ a : Nat, o = (a : Int) ∧ a < m := by
  unfold neighL at h
  rw [List.mem_flatMap] at h
  obtain ⟨e, he, ho⟩ := h
  obtain ⟨p, q, rfl, hpq, hq⟩ := hE e he
  rw [neighE_two] at ho
  split at ho
  · simp at ho; exact ⟨q, ho, hq⟩
  · split at ho
    · simp at ho; exact ⟨p, ho, by omega⟩
    · simp at ho
/-- as the reference has it -/
def freeS (es : List (List Int)) (cs : List Int) (node c : Int) (k : Nat) : Bool := (List.range k).all fun i => (!decide (cs.getD i 0 = c)) || !nearB es node (i : Int)
theorem free_law {m : Nat} {es : List (List Int)} {cs : List Int} {node c : Int} (hE : EdgesB m es) : freeS es cs node c m = !takenB es cs node c := by
  rw [Bool.eq_iff_iff]
  unfold freeS takenB
  simp only [List.all_eq_true, List.mem_range, Bool.or_eq_true, Bool.not_eq_true', decide_eq_false_iff_not, List.any_eq_false, decide_eq_true_eq]
  constructor
  · intro h o ho hc
    obtain ⟨a, rfl, ha⟩ := neigh_in hE ho
    rw [Int.toNat_natCast] at hc
    rcases h a ha with h1 | h1
    · exact h1 hc
    · unfold nearB at h1
      rw [List.any_eq_false] at h1
      unfold neighL at ho
      rw [List.mem_flatMap] at ho
      obtain ⟨e, he, ho⟩ := ho
      obtain ⟨p, q, rfl, hpq, hq⟩ := hE e he
      exact h1 _ he ((neighE_mem hpq).1 ho)
  · intro h i hi
    by_cases hc : cs.getD i 0 = c
    · right
      unfold nearB
      rw [List.any_eq_false]
      intro e he hn
      obtain ⟨p, q, rfl, hpq, hq⟩ := hE e he
      have ho : (i : Int) ∈ neighL es node := by
        unfold neighL
        rw [List.mem_flatMap]
        exact ⟨_, he, (neighE_mem hpq).2 hn⟩
      exact h _ ho (by rw [Int.toNat_natCast]; exact hc)
    · left; exact hc
theorem CellsAt.belowB {w w' : World} {b B : Nat} {vs : List Value} (h : CellsAt w b vs) (hB : b < B) (hb : Below B w w') : CellsAt w' b vs :=
  ⟨Nat.lt_of_lt_of_le h.1 hb.size, fun i u hu => by rw [hb.cell (p := ⟨b, i, none⟩) hB]; exact h.2 i u hu⟩
set_option maxHeartbeats 2000000 in
theorem neighbours_any {v : Value} {es : List (List Int)} (m : Nat) (n node : Int) (w : World) (ha : SlII w v es) (hE : EdgesB m es) (hl : es.length ≤ 100) :
    Calls Try.prog 67 #[.agg #[.int .i64 n, v], .int .i64 node] w fun e w' => ∃ r, e = .returned r ∧ OwnI w' w.heap.size r (neighL es node) ∧ Below w.heap.size w w' := by
  obtain ⟨a, ca, us, rfl, hca, hca', hul, hrd, hrow⟩ := ha
  have HG := Lib.hid (fun W (h : Below w.heap.size w W) => And.intro (hrd.below h) (fun i hi u hu => (hrow i hi u hu).below h))
  have HU := Lib.hid hul
  have HE := Lib.hid hE
  have bx : Below w.heap.size w ((w.alloc (.cells #[.int .i64 n, .slice a es.length ca] 35)).alloc (.cells #[] 2)) := ((Below.refl _ _).alloc (Nat.le_refl _) _).alloc (by simp) _
  have own0 := OwnI.empty (w.alloc (.cells #[.int .i64 n, .slice a es.length ca] 35)) (base := w.heap.size) (by simp)
  simp only [show (w.alloc (.cells #[.int .i64 n, .slice a es.length ca] 35)).heap.size = w.heap.size + 1 from by simp] at own0
  have hfl := fun k => flat_len (l := es.take k) (f := neighE node) (neighE_len node)
  have HFL := Lib.hid hfl
  unfold maxLen at hca'
  clear hul hrd hrow hE hfl
  go_enter Try.func67, Try.ntmps67
  go_wp2
  go_loopw [5, 7, 12] (fun v _ i wr => ∃ k : Nat, k ≤ es.length ∧ i = .int .i64 k ∧ OwnI wr w.heap.size v ((es.take k).flatMap (neighE node)) ∧ Below w.heap.size w wr) (fun _ _ i _ => es.length - (intOf i).toNat)
  case atStart => exact ⟨0, Nat.zero_le _, rfl, own0, bx⟩
  case round =>
    clear own0 bx
    obtain ⟨k, hk, rfl, hown, hbr⟩ := hrel
    by_cases hlt : k < es.length
    · obtain ⟨z, bb, off, rfl, gc, sx⟩ := SlII.row HU.out (HG.out _ hbr).1 (HG.out _ hbr).2 hlt
      have i1 : (k : Int) < (es.length : Int) := by omega
      obtain ⟨p, q, he, hpq, hqm⟩ := HE.out _ (List.getElem_mem hlt)
      have hft := flat_take_succ (f := neighE node) hlt
      rw [he, neighE_two] at hft
      rw [he] at sx
      obtain ⟨ua, uc, rfl, _, _, ur⟩ := sx
      obtain ⟨eb, eo, rfl, g0⟩ := ur.one (i64s_get (j := 0) (by simp))
      obtain ⟨eb', eo', he', g1⟩ := ur.one (i64s_get (j := 1) (by simp))
      simp only [Option.some.injEq, Addr.mk.injEq] at he'
      obtain ⟨rfl, rfl, _⟩ := he'
      simp only [Nat.add_zero, List.getElem_cons_zero, List.getElem_cons_succ] at g0 g1
      have j1 : (1 : Int) < ((([(p : Int), (q : Int)] : List Int).length : Nat) : Int) := by simp
      have j0 : (0 : Int) < ((([(p : Int), (q : Int)] : List Int).length : Nat) : Int) := by simp
      have hln : ((es.take k).flatMap (neighE node)).length < 16777216 := by have := HFL.out k; rw [List.length_take] at this; omega
      generalize (es.take k).flatMap (neighE node) = l at hown hft hln
      have hsz := hbr.size
      have HFT := Lib.hid hft
      clear he hpq hqm hft
      by_cases h1 : node = (p : Int)
      · have t1 : (node == (p : Int)) = true := by simp [h1]
        have H1 := Lib.hid h1
        clear h1
        go_wp2_with (at_builtin; refine append_i64 _ _ _ _ rfl rfl rfl hown rfl hln hsz ?_)
        intro v' w1 hown1 hb1 hsz1
        have hb2 := (hbr.alloc hsz _).trans hb1
        clear hown hb1
        go_wp2
        go_roundw
        case rel => exact ⟨k + 1, by omega, by go_num, by rw [HFT.out, if_pos H1.out]; exact hown1, hb2⟩
        case measure => simp [intOf]; omega
      · have t1 : (node == (p : Int)) = false := by simp [h1]
        have H1 := Lib.hid h1
        clear h1
        by_cases h2 : node = (q : Int)
        · have t2 : (node == (q : Int)) = true := by simp [h2]
          have H2 := Lib.hid h2
          clear h2
          go_wp2_with (at_builtin; refine append_i64 _ _ _ _ rfl rfl rfl hown rfl hln hsz ?_)
          intro v' w1 hown1 hb1 hsz1
          have hb2 := (hbr.alloc hsz _).trans hb1
          clear hown hb1
          go_wp2
          go_roundw
          case rel => exact ⟨k + 1, by omega, by go_num, by rw [HFT.out, if_neg H1.out, if_pos H2.out]; exact hown1, hb2⟩
          case measure => simp [intOf]; omega
        · have t2 : (node == (q : Int)) = false := by simp [h2]
          have H2 := Lib.hid h2
          clear h2
          go_wp2
          go_roundw
          case rel => exact ⟨k + 1, by omega, by go_num, by rw [HFT.out, if_neg H1.out, if_neg H2.out, List.append_nil]; exact hown, hbr⟩
          case measure => simp [intOf]; omega
    · obtain rfl : k = es.length := by omega
      rw [List.take_length] at hown
      go_wp2
      go_ret
      exact ⟨_, rfl, hown, hbr⟩
theorem freeClosure_any {cv : Value} {cs : List Int} {a : Nat} (b1 b2 : Nat) (c : Int) (w : World) (h1 : CellsAt w b1 [cv]) (h2 : CellsAt w b2 [.int .i64 c]) (hcv : SlI w cv cs) (ha : a < cs.length) :
    Calls Try.prog 68 #[.int .i64 a, .pointer (some ⟨b1, 0, none⟩), .pointer (some ⟨b2, 0, none⟩)] w fun e w' => e = .returned (.bool (decide (cs.getD (a : Int).toNat 0 = c))) ∧ Below w.heap.size w w' := by
  obtain ⟨va, vc, rfl, _, hvc, vr⟩ := hcv
  obtain ⟨cb, co, rfl, ga⟩ := vr.one (i64s_get ha)
  have k0 := h1.get 0 _ rfl
  have k1 := h2.get 0 _ rfl
  have hgd : cs.getD (a : Int).toNat 0 = cs[a] := by rw [Int.toNat_natCast, getD_at ha]
  have HGD := Lib.hid hgd
  have kk0 := fun d os => cell_regrown k0 d os
  have kk1 := fun d os => cell_regrown k1 d os
  have kga := fun d os => cell_regrown ga d os
  have i1 : (a : Int) < (cs.length : Int) := by omega
  have i0 : (0 : Int) ≤ (a : Int) := by omega
  clear hgd
  go_enter Try.func68, Try.ntmps68
  go_wp2_with fail
  refine wp_region_quiet_below (by kernel_rfl) (by kernel_rfl) ?_
  repeat (first | go_big_quiet_skip | quiet_step (first | fail))
  refine wpQuiet_nil ?_
  intro _ hw'
  obtain ⟨⟨dq, osq⟩, hw''⟩ := hw'
  subst hw''
  have bq0 := below_regrown w dq osq
  generalize grow (redrawn w dq) osq = wq at bq0 ⊢
  clear kk0 kk1 kga
  go_wp2
  go_ret
  exact ⟨rb (by rw [HGD.out]; first | rfl | (simp; done)), bq0⟩
set_option maxRecDepth 100000 in
set_option maxHeartbeats 4000000 in
theorem free_any {v u : Value} {es : List (List Int)} {cs : List Int} (m : Nat) (n node : Int) (q : Nat) (w : World) (ha : SlII w v es) (hu : SlI w u cs) (hE : EdgesB m es) (hm : cs.length = m) (hl : es.length ≤ 100) (hq : q ≤ 100) :
    Calls Try.prog 34 #[.agg #[.int .i64 n, v], .int .i64 q, u, .int .i64 node] w fun e w' => ∃ r, e = .returned r ∧ OwnI w' w.heap.size r (freeL es cs node q) ∧ Below w.heap.size w w' := by
  have hmf : ∀ (fn : Fn) (first cap : Array Value) (w : World), (Instr.makeFunc fn first cap).run Try.prog w = .ok (.func fn first cap) w := fun _ _ _ _ => rfl
  have HA := Lib.hid (fun W (h : Below w.heap.size w W) => ha.below h)
  have HV := Lib.hid (fun W (h : Below w.heap.size w W) => hu.below h)
  obtain ⟨a, ca, us, rfl, _⟩ := ha
  obtain ⟨va, vc, rfl, _⟩ := hu
  have b1 : Below w.heap.size w (w.alloc (.cells #[.int .i64 n, .slice a es.length ca] 35)) := (Below.refl _ _).alloc (Nat.le_refl _) _
  have b2 := b1.alloc (by simp) (.cells #[.slice va cs.length vc] 42)
  have b3 := b2.alloc (by simp; omega) (.cells #[] 2)
  have X0 := Lib.hid ((CellsAt.new' w [.int .i64 n, .slice a es.length ca] 35 (b := w.heap.size) rfl).below (((Below.refl _ _).alloc (Nat.le_refl _) (.cells #[.slice va cs.length vc] 42)).alloc (by simp) (.cells #[] 2)))
  have X1 := Lib.hid ((CellsAt.new' (w.alloc (.cells #[.int .i64 n, .slice a es.length ca] 35)) [.slice va cs.length vc] 42 (b := w.heap.size + 1) (by simp)).below ((Below.refl _ _).alloc (Nat.le_refl _) (.cells #[] 2)))
  have own0 := OwnI.empty ((w.alloc (.cells #[.int .i64 n, .slice a es.length ca] 35)).alloc (.cells #[.slice va cs.length vc] 42)) (base := w.heap.size + 2) (by simp)
  simp only [show ((w.alloc (.cells #[.int .i64 n, .slice a es.length ca] 35)).alloc (.cells #[.slice va cs.length vc] 42)).heap.size = w.heap.size + 1 + 1 from by simp] at own0
  have HE := Lib.hid hE
  have HM := Lib.hid hm
  have HB3 := Lib.hid b3
  have hWZ : (((w.alloc (.cells #[.int .i64 n, .slice a es.length ca] 35)).alloc (.cells #[.slice va cs.length vc] 42)).alloc (.cells #[] 2)).heap.size = w.heap.size + 3 := by simp
  have HWZ := Lib.hid hWZ
  clear hE hm hWZ
  go_enter Try.func34, Try.ntmps34
  go_wp2
  go_loopw [9, 10, 13] (fun v _ i wr => ∃ k : Nat, k ≤ q ∧ i = .int .i64 k ∧ OwnI wr (w.heap.size + 2) v (freeL es cs node k) ∧ Below (w.heap.size + 2) (((w.alloc (.cells #[.int .i64 n, .slice a es.length ca] 35)).alloc (.cells #[.slice va cs.length vc] 42)).alloc (.cells #[] 2)) wr) (fun _ _ i _ => q - (intOf i).toNat)
  case atStart => exact ⟨0, Nat.zero_le _, rfl, own0, Below.refl _ _⟩
  case round =>
    clear own0 b1 b2 b3
    obtain ⟨k, hk, rfl, hown, hbr⟩ := hrel
    have hzr := hbr.size
    rw [HWZ.out] at hzr
    by_cases hlt : k < q
    · have bk : Below wr.heap.size wr (wr.alloc (.cells #[.int .i64 k] 2)) := (Below.refl _ _).alloc (Nat.le_refl _) _
      have hbk := hbr.trans (bk.mono (by omega))
      have XK := Lib.hid (CellsAt.new wr [.int .i64 k] 2)
      have x0 := X0.out.belowB (by omega) hbk
      have c0 := x0.get 0 _ rfl
      have c1 := x0.get 1 _ rfl
      have own1 := Lib.hid (hown.below bk)
      have hfl := freeL_length es cs node k
      clear hown x0
      generalize ht : takenB es cs node k = T
      have HT := Lib.hid ht
      clear ht
      go_wp2_with fail
      refine (neighbours_any m n node _ (HA.out _ (HB3.out.trans (hbk.mono (by omega)))) HE.out hl).mono ?_
      rintro e w1 ⟨r, rfl, or, b1⟩
      have hzz := b1.size
      simp at hzz
      have hb1 := hbk.trans (b1.mono (by simp; omega))
      have hbw1 := HB3.out.trans (hb1.mono (Nat.le_add_right _ 2))
      have XK1 := Lib.hid (XK.out.below b1)
      have own2 := Lib.hid (own1.out.below b1)
      have SR := Lib.hid or.sl
      obtain ⟨ra, rn, rc, rfl, _⟩ := or.form
      clear b1 or c0 c1
      have hC := ContainsFuncFree_any (.pointer (some ⟨w.heap.size + 1, 0, none⟩)) (.pointer (some ⟨wr.heap.size, 0, none⟩)) (fun o => decide (cs.getD o.toNat 0 = k)) w1 SR.out (fun W x hW hx => by
        obtain ⟨a, rfl, ham⟩ := neigh_in HE.out hx
        exact freeClosure_any _ _ k W ((X1.out.belowB (by omega) hb1).below hW) (XK1.out.below hW) (HV.out _ (hbw1.trans (hW.mono hbw1.size))) (by rw [HM.out]; exact ham))
      have HC := Lib.hid hC
      clear hC
      go_wp2_with fail
      refine HC.out.mono ?_
      rintro e w2 ⟨rfl, b2⟩
      rw [show (neighL es node).any (fun o => decide (cs.getD o.toNat 0 = (k : Int))) = T from HT.out]
      have hb2 := hb1.trans (b2.mono (by omega))
      have ck := (XK1.out.below b2).get 0 _ rfl
      have hown := own2.out.below b2
      have hzz2 := b2.size
      have hsz2 : w.heap.size + 2 ≤ w2.heap.size := by omega
      have hk2 : wr.heap.size < w2.heap.size := by omega
      clear b2
      cases T
      · go_wp2_with (at_builtin; refine append_i64 _ _ _ _ rfl rfl rfl hown rfl (by omega) hsz2 ?_)
        intro v' w3 hown3 hb3 hsz3
        rw [← freeL_yes HT.out] at hown3
        have hb4 := (hb2.alloc hsz2 _).trans hb3
        clear hown hb3
        go_wp2
        go_roundw
        case rel => exact ⟨k + 1, by omega, by go_num, hown3, hb4⟩
        case measure => simp [intOf]; omega
      · go_wp2
        go_roundw
        case rel => exact ⟨k + 1, by omega, by go_num, by rw [freeL_no HT.out]; exact hown, hb2⟩
        case measure => simp [intOf]; omega
    · obtain rfl : k = q := by omega
      go_wp2
      go_ret
      exact ⟨_, rfl, hown.lower (Nat.le_add_right _ 2), HB3.out.trans (hbr.mono (Nat.le_add_right _ 2))⟩
end Go.Proofs.Ytjbjkfahfjoigaa
namespace Go.Proofs.Ytjbjkfahfjoigaa
open Go.RowKit Go.Sort
theorem freeS_succ (es : List (List Int)) (cs : List Int) (node c : Int) (k : Nat) : freeS es cs node c (k + 1) = (freeS es cs node c k && ((!decide (cs.getD k 0 = c)) || !nearB es node (k : Int))) := by
  unfold freeS; rw [List.range_succ, List.all_append]; simp
set_option maxRecDepth 100000 in
set_option maxHeartbeats 4000000 in
theorem l08Free_any {v u : Value} {es : List (List Int)} {cs : List Int} (b o m : Nat) (node : Int) (q : Nat) (w : World) (hc : GraphAt w b o m v) (ha : SlII w v es) (hu : SlI w u cs) (hE : EdgesB m es) (hm : cs.length = m) (hm5 : m ≤ 100) (hq : q ≤ 100) :
    Calls Try.prog 59 #[.pointer (some ⟨b, o, none⟩), .int .i64 q, u, .int .i64 node] w fun e w' => ∃ r, e = .returned r ∧ OwnI w' w.heap.size r (freeL es cs node q) ∧ Below w.heap.size w w' := by
  have HA := Lib.hid (fun W (h : Below w.heap.size w W) => ha.below h)
  have HC := Lib.hid (fun W (h : Below w.heap.size w W) => hc.below h)
  have HV := Lib.hid (fun W (h : Below w.heap.size w W) => hu.below h)
  have HE := Lib.hid hE
  have HM := Lib.hid hm
  obtain ⟨va, vc, rfl, _, hvc, _⟩ := hu
  unfold maxLen at hvc
  have own0 := OwnI.empty w (base := w.heap.size) (Nat.le_refl _)
  have b0 : Below w.heap.size w (w.alloc (.cells #[] 2)) := (Below.refl _ _).alloc (Nat.le_refl _) _
  clear ha hc hE hm
  go_enter Try.func59, Try.ntmps59
  go_wp2
  go_loopw [9, 10, 11, 12] (fun v i _ _ wr => ∃ k : Nat, k ≤ q ∧ i = .int .i64 k ∧ OwnI wr w.heap.size v (freeL es cs node k) ∧ Below w.heap.size w wr) (fun _ i _ _ _ => q - (intOf i).toNat)
  case atStart => exact ⟨0, Nat.zero_le _, rfl, own0, b0⟩
  case round =>
    clear own0 b0
    obtain ⟨k, hk, rfl, hown, hbr⟩ := hrel
    by_cases hlt : k < q
    · obtain ⟨wo, rfl⟩ : ∃ wo : World, wo = wr := ⟨_, rfl⟩
      have HOWN := Lib.hid hown
      clear hown
      go_wp2
      go_loopw [11, 12] (fun f i wr => ∃ j : Nat, j ≤ m ∧ i = .int .i64 j ∧ f = .bool (freeS es cs node k j) ∧ Below wo.heap.size wo wr) (fun _ i _ => m - (intOf i).toNat)
      case atStart => exact ⟨0, Nat.zero_le _, rfl, rfl, Below.refl _ _⟩
      case round =>
        obtain ⟨j, hj, rfl, rfl, hbo⟩ := hrel
        have hbw := hbr.trans (hbo.mono hbr.size)
        obtain ⟨_, c0, c1⟩ := HC.out _ hbw
        by_cases hjt : j < m
        · have hjs : j < cs.length := by rw [HM.out]; exact hjt
          have hfs := freeS_succ es cs node k j
          rw [getD_at hjs] at hfs
          obtain ⟨_, _, he', _, _, vr⟩ := HV.out _ hbw
          simp only [Value.slice.injEq] at he'
          obtain ⟨rfl, _, rfl⟩ := he'
          obtain ⟨cb, co, rfl, gj⟩ := vr.one (i64s_get hjs)
          generalize freeS es cs node k j = f at hfs
          obtain ⟨d, hd⟩ : ∃ d, d = decide (cs[j] = (k : Int)) := ⟨_, rfl⟩
          have t1 : (cs[j] != (k : Int)) = !d := by rw [hd]; rfl
          rw [← hd] at hfs
          generalize hn : nearB es node (j : Int) = N at hfs
          have HN := Lib.hid hn
          have HFS := Lib.hid hfs
          have i1 : (j : Int) < (cs.length : Int) := by omega
          clear hfs hn hd
          cases f
          · go_wp2
            go_roundw
            case rel => exact ⟨j + 1, by omega, by go_num, by rw [HFS.out]; rfl, hbo⟩
            case measure => simp [intOf]; omega
          · cases d
            · go_wp2
              go_roundw
              case rel => exact ⟨j + 1, by omega, by go_num, by rw [HFS.out]; rfl, hbo⟩
              case measure => simp [intOf]; omega
            · go_wp2_with fail
              refine (l08Near_any b o m m node j _ (HC.out _ hbw) (HA.out _ hbw) HE.out).mono ?_
              rintro e w2 ⟨rfl, b2⟩
              rw [HN.out]
              have hb2 := hbo.trans (b2.mono hbo.size)
              clear b2 c0 c1
              go_wp2
              go_roundw
              case rel => exact ⟨j + 1, by omega, by go_num, by rw [HFS.out]; simp, hb2⟩
              case measure => simp [intOf]; omega
        · obtain rfl : j = m := by omega
          have hlaw := free_law (cs := cs) (node := node) (c := (k : Int)) HE.out
          have hfl := freeL_length es cs node k
          have hown := HOWN.out.below hbo
          have hsz := hbw.size
          generalize freeS es cs node k j = f at hlaw
          generalize ht : takenB es cs node k = T at hlaw
          have HT := Lib.hid ht
          clear ht
          cases T
          · obtain rfl : f = true := hlaw
            go_wp2_with (at_builtin; refine append_i64 _ _ _ _ rfl rfl rfl hown rfl (by omega) hsz ?_)
            intro v' w3 hown3 hb3 hsz3
            rw [← freeL_yes HT.out] at hown3
            have hb4 := (hbw.alloc hsz _).trans hb3
            clear hown hb3
            go_wp2
            go_roundw
            case rel => exact ⟨k + 1, by omega, by go_num, hown3, hb4⟩
            case measure => simp [intOf]; omega
          · obtain rfl : f = false := hlaw
            go_wp2
            go_roundw
            case rel => exact ⟨k + 1, by omega, by go_num, by rw [freeL_no HT.out]; exact hown, hbw⟩
            case measure => simp [intOf]; omega
    · obtain rfl : k = q := by omega
      go_wp2
      go_ret
      exact ⟨_, rfl, hown, hbr⟩
def freeR (n : Int) (es : List (List Int)) (q : Int) (cs : List Int) (node : Int) : List Int × Int :=
  let code := askedC n es q (colsOk n 0 (IntKind.i64.wrap (q - 1)) cs && inR node 0 (IntKind.i64.wrap (n - 1)))
  if code = 0 then (freeL es cs node q.toNat, 0) else ([], code)
theorem freeR_len (n : Int) (es : List (List Int)) (q : Int) (cs : List Int) (node : Int) : (freeR n es q cs node).1.length ≤ 4 := by
  unfold freeR
  dsimp only
  split
  · rename_i h
    obtain ⟨_, h1, h2, _⟩ := askedC_ok h
    have := freeL_length es cs node q.toNat
    dsimp only; omega
  · simp
def nodeC (n : Int) (es : List (List Int)) (q : Int) (cs : List Int) (node : Int) : Int := askedC n es q (colsOk n 0 (IntKind.i64.wrap (q - 1)) cs && inR node 0 (IntKind.i64.wrap (n - 1)))
theorem nodeC_ok {n q node : Int} {es : List (List Int)} {cs : List Int} (h : nodeC n es q cs node = 0) : ∃ m k : Nat, n = (m : Int) ∧ q = (k : Int) ∧ 1 ≤ m ∧ m ≤ 5 ∧ 1 ≤ k ∧ k ≤ 4 ∧ EdgesB m es ∧ es.length ≤ 25 ∧ cs.length = m ∧ 0 ≤ node ∧ node < m ∧ (∀ c ∈ cs, 0 ≤ c ∧ c < k) ∧ colsOk (m : Int) 0 ((k : Int) - 1) cs = true ∧ inR node 0 ((m : Int) - 1) = true ∧ askedC m es k true = 0 := by
  obtain ⟨hg, h1, h2, h3⟩ := askedC_ok h
  rw [Bool.and_eq_true] at h3
  obtain ⟨m, rfl, hm1, hm5, hE, hl⟩ := graphOk_all hg
  obtain ⟨k, rfl⟩ := Int.eq_ofNat_of_zero_le (show 0 ≤ q by omega)
  have hc := colsOk_len h3.1
  have hn := inR_iff.1 h3.2
  rw [IntWalk.i64_in _ (by omega)] at hn hc
  have h31 := h3.1
  have h32 := h3.2
  rw [IntWalk.i64_in _ (by omega)] at h31 h32
  exact ⟨m, k, rfl, rfl, hm1, hm5, by omega, by omega, hE, hl, by omega, hn.1, by omega, fun c hx => by have := hc.2 c hx; omega, h31, h32, by unfold askedC; rw [hg, inR_iff.2 ⟨h1, h2⟩]; rfl⟩
theorem nodeC_code {n q node : Int} {es : List (List Int)} {cs : List Int} (h : codeC n es q [cs] ≠ 0) : nodeC n es q cs node = codeC n es q [cs] := by
  rw [codeC_one] at h ⊢
  unfold nodeC askedC at *
  split
  · rfl
  · rename_i h1
    rw [if_neg h1] at h
    split
    · rfl
    · rename_i h2
      rw [if_neg h2] at h
      split at h
      · rename_i h3; rw [h3]; simp
      · simp at h
theorem nodeC_node {n q node : Int} {es : List (List Int)} {cs : List Int} (h : codeC n es q [cs] = 0) : nodeC n es q cs node = if inR node 0 (IntKind.i64.wrap (n - 1)) = true then 0 else 2 := by
  rw [codeC_one] at h
  obtain ⟨hg, h1, h2, h3⟩ := askedC_ok h
  unfold nodeC askedC
  rw [hg, h3, inR_iff.2 ⟨h1, h2⟩]
  cases inR node 0 (IntKind.i64.wrap (n - 1)) <;> rfl
end Go.Proofs.Ytjbjkfahfjoigaa
namespace Go.Proofs.Ytjbjkfahfjoigaa
open Go.RowKit Go.Sort
def recolR (n : Int) (es : List (List Int)) (q : Int) (cs : List Int) (node draw : Int) : List Int × Int :=
  if nodeC n es q cs node = 0 then (if properB es cs = true then (if inR draw 0 ((freeL es cs node q.toNat).length - 1) = true then (cs.set node.toNat ((freeL es cs node q.toNat).getD draw.toNat 0), 0) else ([], 2)) else ([], 4)) else ([], nodeC n es q cs node)
theorem recolR_len (n : Int) (es : List (List Int)) (q : Int) (cs : List Int) (node draw : Int) : (recolR n es q cs node draw).1.length ≤ 5 := by
  unfold recolR
  split
  · rename_i h
    obtain ⟨m, k, _, _, _, h5, _, _, _, _, hm, _⟩ := nodeC_ok h
    split
    · split
      · simp; omega
      · simp
    · simp
  · simp
set_option maxHeartbeats 1000000 in
theorem with_any {u : Value} {xs : List Int} (p : Nat) (x : Int) (w : World) (ha : SlI w u xs) (hp : p < xs.length) (hl : xs.length ≤ 1048576) :
    Calls Try.prog 36 #[u, .int .i64 p, .int .i64 x] w fun e w' => ∃ v, e = .returned v ∧ OwnI w' w.heap.size v (xs.set p x) ∧ Below w.heap.size w w' := by
  go_enter Try.func36, Try.ntmps36
  go_wp2_with fail
  refine (Clone_any w ha hl).mono ?_
  rintro e w1 ⟨v, rfl, o, b1⟩
  rcases o.forms with ⟨rfl, h⟩ | ⟨g, c, rfl, hg, hg2, _, _⟩
  · rw [h] at hp; simp at hp
  · have c1 := o.cell hp
    have f1 := o.free p
    have i1 : (p : Int) < (xs.length : Int) := by omega
    have OS := Lib.hid (o.set p x)
    have BS := Lib.hid (b1.setCell (p := ⟨g, p, none⟩) hg (.int .i64 x))
    clear o b1
    go_wp2
    go_ret
    exact ⟨_, rfl, OS.out, BS.out⟩
end Go.Proofs.Ytjbjkfahfjoigaa
