/-
  FnJournal: two desks compared, and plain facts of a journal of right records. With it: l09History: the records that the laws draw, not all of which fit. A2Records: records that fit a service.
-/
import Derived.Test.YtihjadffdjjogaaZRowFnJournal24
import Derived.Test.YtihjadffdjjogaaZRowFnJournal21
import Derived.Test.YtihjadffdjjogaaZRowFnJournal18
import Derived.Deep.CutBlock
import Derived.Test.YtihjadffdjjogaaZRowFnJournal5
import Derived.Test.YtihjadffdjjogaaZRowFnJournal22
set_option linter.unusedVariables false
set_option linter.unusedSimpArgs false
namespace Go.Proofs.Ytihjadffdjjogaa
open Go.RowKit Go.Sort
theorem DeskIs.fs {S : Nat → Prop} {w w' : World} {base b o gl cl gr cr : Nat} {lv rs : List Int} {outs : Int} (h : DeskIs w base b o gl cl gr cr lv rs outs) (hf : Fs S w w') (h1 : ¬ S b) (h2 : ¬ S gl) (h3 : ¬ S gr) : DeskIs w' base b o gl cl gr cr lv rs outs := by
  obtain ⟨⟨a0, a1, a2, a3, a4⟩, hl, hr, e1, e2, e3, e4⟩ := h
  have key : ∀ {g c n : Nat} {xs : List Int}, ¬ S g → OwnI w base (.slice (some ⟨g, 0, none⟩) n c) xs → OwnI w' base (.slice (some ⟨g, 0, none⟩) n c) xs := by
    intro g c n xs hg ho
    refine ⟨ho.1, ?_⟩
    rcases ho.2 with ⟨q, _⟩ | ⟨g', c', cur, q1, q2, q3, q4⟩
    · simp at q
    · refine .inr ⟨g', c', cur, q1, q2, ?_, q4⟩
      simp only [Value.slice.injEq, Option.some.injEq, Addr.mk.injEq] at q1
      obtain ⟨⟨rfl, _⟩, _⟩ := q1
      rw [hf.block g (Array.getElem?_eq_some_iff.1 q3).1 hg]; exact q3
  refine ⟨⟨Nat.lt_of_lt_of_le a0 hf.size, by rw [hf.cell (p := ⟨b, o, none⟩) a0 h1]; exact a1, by rw [hf.cell (p := ⟨b, o + 1, none⟩) a0 h1]; exact a2, by rw [hf.cell (p := ⟨b, o + 2, none⟩) a0 h1]; exact a3, by rw [hf.frozen (p := ⟨b, o + 2, none⟩) a0 h1]; exact a4⟩, key h2 hl, key h3 hr, e1, e2, e3, e4⟩
theorem recs_fs {S : Nat → Prop} {w w' : World} {base : Nat} {v : Value} {xs : List (Int × Int × Int)} (h : FRecord.Own w base v xs) (hf : Fs S w w') (hS : ∀ g, v.ownBlock = some g → ¬ S g) : FRecord.Own w' base v xs := by
  refine ⟨h.1, ?_⟩
  rcases h.2 with h2 | ⟨g, c, cur, h1, h2, h3, h4⟩
  · exact .inl h2
  · refine .inr ⟨g, c, cur, h1, h2, ?_, h4⟩
    rw [hf.block g (Array.getElem?_eq_some_iff.1 h3).1 (hS g (by rw [h1]; rfl))]; exact h3
/-- a list of records that is not empty lies apart from a desk -/
theorem recs_apart {w : World} {base base' D gl cl gr cr : Nat} {v : Value} {x : Int × Int × Int} {xs : List (Int × Int × Int)} {l r : List Int} {q : Int} (h : FRecord.Own w base v (xs ++ [x])) (hd : DeskIs w base' D 0 gl cl gr cr l r q) : ∀ g, v.ownBlock = some g → g ≠ D ∧ g ≠ gl ∧ g ≠ gr := by
  intro g hg
  rcases h.forms with ⟨_, h2⟩ | ⟨g', c, rfl, _, _, _⟩
  · simp at h2
  · simp only [Value.ownBlock, Option.some.injEq] at hg
    subst hg
    have hn : 0 < (xs ++ [x]).length := by simp
    refine ⟨fun e => ?_, fun e => ?_, fun e => ?_⟩
    · subst e
      have c0 := (FRecord_cell h hn).1
      have d0 := hd.at_.2.1
      rw [Nat.zero_mul] at c0
      rw [c0] at d0
      simp at d0
    · subst e
      rcases h.2 with ⟨q1, _⟩ | ⟨g1, c1, cur1, q1, _, k1, _⟩
      · simp at q1
      · rcases hd.ol.2 with ⟨p1, _⟩ | ⟨g2, c2, cur2, p1, _, k2, _⟩
        · simp at p1
        · simp only [Value.slice.injEq, Option.some.injEq, Addr.mk.injEq] at q1 p1
          obtain ⟨⟨rfl, _⟩, _⟩ := q1
          obtain ⟨⟨rfl, _⟩, _⟩ := p1
          rw [k1] at k2
          simp [FRecord] at k2
    · subst e
      rcases h.2 with ⟨q1, _⟩ | ⟨g1, c1, cur1, q1, _, k1, _⟩
      · simp at q1
      · rcases hd.or_.2 with ⟨p1, _⟩ | ⟨g2, c2, cur2, p1, _, k2, _⟩
        · simp at p1
        · simp only [Value.slice.injEq, Option.some.injEq, Addr.mk.injEq] at q1 p1
          obtain ⟨⟨rfl, _⟩, _⟩ := q1
          obtain ⟨⟨rfl, _⟩, _⟩ := p1
          rw [k1] at k2
          simp [FRecord] at k2
/-- what is kept while a history is drawn -/
def HistSt (w0 : World) (b D gl cl gr cr sm K N : Nat) (v : Value) (wc : World) : Prop :=
  ∃ (hs : List (Int × Int × Int)) (l r : List Int) (q : Int), SrcB wc b K ∧ DeskOk sm (l, r, q) ∧ DeskIs wc w0.heap.size D 0 gl cl gr cr l r q ∧ FRecord.Own wc w0.heap.size v hs ∧ hs.length ≤ N ∧ (∀ g, v.ownBlock = some g → g ≠ D ∧ g ≠ gl ∧ g ≠ gr) ∧ Fs (fun k => k = b) w0 wc
theorem HistSt.src {w0 : World} {b D gl cl gr cr sm K N : Nat} {v : Value} {wc : World} (h : HistSt w0 b D gl cl gr cr sm K N v wc) : SrcB wc b K := by obtain ⟨_, _, _, _, h, _⟩ := h; exact h
theorem HistSt.fr {w0 : World} {b D gl cl gr cr sm K N : Nat} {v : Value} {wc : World} (h : HistSt w0 b D gl cl gr cr sm K N v wc) : Fs (fun k => k = b) w0 wc := by obtain ⟨_, _, _, _, _, _, _, _, _, _, h⟩ := h; exact h
theorem HistSt.more {w0 : World} {b D gl cl gr cr sm K K' N N' : Nat} {v : Value} {wc : World} (h : HistSt w0 b D gl cl gr cr sm K N v wc) (hK : K ≤ K') (hN : N ≤ N') : HistSt w0 b D gl cl gr cr sm K' N' v wc := by
  obtain ⟨hs, l, r, q, h1, h2, h3, h4, h5, h6, h7⟩ := h
  exact ⟨hs, l, r, q, h1.more hK, h2, h3, h4, by omega, h6, h7⟩
theorem HistSt.fsG {S : Nat → Prop} {w0 : World} {b D gl cl gr cr sm K K' N : Nat} {v : Value} {wc w' : World} (h : HistSt w0 b D gl cl gr cr sm K N v wc) (hf : Fs S wc w') (hb : SrcB w' b K') (h1 : ¬ S D) (h2 : ¬ S gl) (h3 : ¬ S gr) (hv : ∀ g, v.ownBlock = some g → ¬ S g) (h0 : ∀ k, k < w0.heap.size → S k → k = b) : HistSt w0 b D gl cl gr cr sm K' N v w' := by
  obtain ⟨hs, l, r, q, _, k2, k3, k4, k5, k6, k7⟩ := h
  exact ⟨hs, l, r, q, hb, k2, k3.fs hf h1 h2 h3, recs_fs k4 hf hv, k5, k6, (k7.then hf (R := fun k => k = b ∨ S k) (fun k _ h => .inl h) (fun k _ h => .inr h)).cut (fun k hk h => h.elim id (h0 k hk))⟩
-- HISTORY
def HistR (w0 : World) (b D gl cl gr cr sm K N rb : Nat) (v : Value) (wc : World) : Prop := HistSt w0 b D gl cl gr cr sm K N v wc ∧ ∃ k s x : Int, BoxN wc rb [.int .i64 k, .int .i64 s, .int .i64 x]
theorem HistSt.pick {w0 : World} {b D gl cl gr cr sm K K' N : Nat} {v : Value} {wc w' : World} (h : HistSt w0 b D gl cl gr cr sm K N v wc) (hb : b < w0.heap.size) (hD : ¬ D = b) (hs : SrcB w' b K') (hf : Fs (fun k => k = b) wc w') : HistSt w0 b D gl cl gr cr sm K' N v w' := by
  have h' := h
  obtain ⟨hs', l, r, q, _, _, k3, k4, _⟩ := h'
  have e1 := (k3.ol.lt gl rfl).1
  have e2 := (k3.or_.lt gr rfl).1
  exact h.fsG hf hs hD (by omega) (by omega) (fun g hg => by have := (World.ownsRow.lt (show wc.ownsRow w0.heap.size FRecord.E FRecord.size v hs'.length (FRecord.encs hs') from k4) g hg).1; omega) (fun k _ h => h)
theorem HistSt.box {w0 : World} {b D gl cl gr cr sm K N rb : Nat} {v : Value} {wc w' : World} (h : HistSt w0 b D gl cl gr cr sm K N v wc) (hb : b < w0.heap.size) (hrb : w0.heap.size ≤ rb) (hD : D < rb) (hl : gl < rb) (hr : gr < rb) (hv : ∀ g, v.ownBlock = some g → g < rb) (hf : Fs (fun k => k = rb) wc w') : HistSt w0 b D gl cl gr cr sm K N v w' :=
  h.fsG hf (h.src.fs hf (fun k hk => by omega)) (by omega) (by omega) (by omega) (fun g hg => by have := hv g hg; omega) (fun k hk h => by omega)
theorem HistSt.new {w0 : World} {b D gl cl gr cr sm K N : Nat} {v : Value} {wc w' : World} (h : HistSt w0 b D gl cl gr cr sm K N v wc) (hb : Below wc.heap.size wc w') : HistSt w0 b D gl cl gr cr sm K N v w' :=
  h.fsG (S := fun _ => False) (Fs.of_below hb) (h.src.below hb) (fun h => h) (fun h => h) (fun h => h) (fun _ _ h => h) (fun _ _ h => h.elim)
theorem HistR.more {w0 : World} {b D gl cl gr cr sm K K' N rb : Nat} {v : Value} {wc : World} (h : HistR w0 b D gl cl gr cr sm K N rb v wc) (hK : K ≤ K') : HistR w0 b D gl cl gr cr sm K' N rb v wc := ⟨h.1.more hK (Nat.le_refl _), h.2⟩
theorem BoxN.set3R {w : World} {b : Nat} {k s x : Int} (h : BoxN w b [.int .i64 k, .int .i64 s, .int .i64 x]) (k' s' x' : Int) : BoxN (((w.setCell ⟨b, 0, none⟩ (.int .i64 k')).setCell ⟨b, 1, none⟩ (.int .i64 s')).setCell ⟨b, 2, none⟩ (.int .i64 x')) b [.int .i64 k', .int .i64 s', .int .i64 x'] :=
  ((h.setR.1 k').setR.2.1 s').setR.2.2 x'
theorem HistR.new {w0 : World} {b D gl cl gr cr sm K N rb : Nat} {v : Value} {wc w' : World} (h : HistR w0 b D gl cl gr cr sm K N rb v wc) (hb : Below wc.heap.size wc w') : HistR w0 b D gl cl gr cr sm K N rb v w' := by
  obtain ⟨h1, k, s, x, h2⟩ := h
  exact ⟨h1.new hb, k, s, x, h2.fs (S := fun _ => False) (Fs.of_below hb) (fun h => h)⟩
/-- one record more -/
theorem HistSt.add2 {w0 : World} {b D gl cl gr cr sm K N : Nat} {v v' : Value} {wc w' : World} {hs : List (Int × Int × Int)} {l r : List Int} {q : Int} {x : Int × Int × Int} (h1 : SrcB wc b K) (h2 : DeskOk sm (l, r, q)) (h3 : DeskIs wc w0.heap.size D 0 gl cl gr cr l r q) (h4 : FRecord.Own wc w0.heap.size v hs) (h5 : hs.length ≤ N) (h6 : ∀ g, v.ownBlock = some g → g ≠ D ∧ g ≠ gl ∧ g ≠ gr) (h7 : Fs (fun k => k = b) w0 wc)
    (hb : b < w0.heap.size) (hg : wc.grownBy w' v.ownBlock) (ho : FRecord.Own w' w0.heap.size v' (hs ++ [x])) : HistSt w0 b D gl cl gr cr sm K (N + 1) v' w' := by
  have hf : Fs (fun k => v.ownBlock = some k) wc w' := Fs.of_grown hg (fun g hg => hg)
  have hlt : ∀ g, v.ownBlock = some g → w0.heap.size ≤ g := fun g hg => (World.ownsRow.lt (show wc.ownsRow w0.heap.size FRecord.E FRecord.size v hs.length (FRecord.encs hs) from h4) g hg).1
  have h3' := h3.fs hf (fun e => (h6 _ e).1 rfl) (fun e => (h6 _ e).2.1 rfl) (fun e => (h6 _ e).2.2 rfl)
  exact ⟨_, l, r, q, h1.fs hf (fun k hk => by have := hlt k hk; omega), h2, h3', ho, by simp; omega, recs_apart ho h3', (h7.then hf (R := fun k => k = b ∨ v.ownBlock = some k) (fun k _ h => .inl h) (fun k _ h => .inr h)).cut (fun k hk h => h.elim id (fun e => by have := hlt k e; omega))⟩
/-- one record learned, or not -/
theorem HistSt.learn {w0 : World} {b D gl cl gr cr sm K N : Nat} {st : Int} {v : Value} {wc w' : World} {hs : List (Int × Int × Int)} {l r : List Int} {q : Int} {x0 : Int} {j vv : Nat} {e : Ending} (h1 : SrcB wc b K) (h2 : DeskOk sm (l, r, q)) (h3 : DeskIs wc w0.heap.size D 0 gl cl gr cr l r q) (h4 : FRecord.Own wc w0.heap.size v hs) (h5 : hs.length ≤ N) (h6 : ∀ g, v.ownBlock = some g → g ≠ D ∧ g ≠ gl ∧ g ≠ gr) (h7 : Fs (fun k => k = b) w0 wc)
    (hb : b < w0.heap.size) (hD : w0.heap.size ≤ D) (hx : recOk st sm x0 j vv = true) (hl : LearnP wc w0.heap.size D 0 gl cl gr cr l r q x0 j vv e w') : HistSt w0 b D gl cl gr cr sm K N v w' := by
  obtain ⟨_, hfr, hdk⟩ := hl
  have hf : Fs (In3 D gl gr) wc w' := ⟨hfr.os, hfr.tape, hfr.output, hfr.size, hfr.block⟩
  have e1 := (h3.ol.lt gl rfl).1
  have e2 := (h3.or_.lt gr rfl).1
  have hown := recs_fs h4 hf (fun g hg h => by
    obtain ⟨n1, n2, n3⟩ := h6 g hg
    rcases h with rfl | rfl | rfl
    · exact n1 rfl
    · exact n2 rfl
    · exact n3 rfl)
  have hsrc : SrcB w' b K := h1.fs hf (fun k hk => by rcases hk with rfl | rfl | rfl <;> omega)
  have hfs : Fs (fun k => k = b) w0 w' := (h7.then hf (R := fun k => k = b ∨ In3 D gl gr k) (fun k _ h => .inl h) (fun k _ h => .inr h)).cut (fun k hk h => h.elim id (fun h => by rcases h with rfl | rfl | rfl <;> omega))
  cases hle : learnF l r q x0 j vv with
  | none =>
    rw [hle] at hdk
    exact ⟨hs, l, r, q, hsrc, h2, hdk l r q rfl, hown, h5, h6, hfs⟩
  | some d =>
    obtain ⟨l', r', q'⟩ := d
    rw [hle] at hdk
    exact ⟨hs, l', r', q', hsrc, learn3_ok h2 (x := (x0, (j : Int), (vv : Int))) hx hle, hdk l' r' q' rfl, hown, h5, h6, hfs⟩

set_option maxRecDepth 100000 in
set_option maxHeartbeats 8000000 in
theorem l09History_any {sv : Value} {xss : List (List Int)} (b bv K n sm : Nat) (t bs wk : Int) (w : World) (hs : SrcB w b K) (hK : K ≤ 10000) (hv : ServAt w bv 0 n t sv bs sm wk) (ha : SlII w sv xss) (hok : serviceOk n t xss bs sm wk = true) (hbv : bv ≠ b) :
    Calls Try.prog 16 #[.pointer (some ⟨b, 0, none⟩), .pointer (some ⟨bv, 0, none⟩)] w fun e w' => ∃ (v : Value) (hs : List (Int × Int × Int)), e = .returned v ∧ hs.length ≤ 14 ∧ FRecord.Own w' w.heap.size v hs ∧ Fs (fun k => k = b) w w' := by
  have hbw := hs.lt
  have hbvw : bv < w.heap.size := hv.1.1
  have hsm := hok
  unfold serviceOk at hsm
  rw [Bool.and_eq_true, Bool.and_eq_true] at hsm
  obtain ⟨hch, hsm0, _⟩ := hsm
  obtain ⟨hsm1, hsm2⟩ := inR_iff.1 hsm0
  obtain ⟨⟨hn1, hn2⟩, _, _, _⟩ := chainOk_parts0 hch
  have hA : Below w.heap.size w (w.alloc (.cells #[] 42)) := (Below.refl _ _).alloc (Nat.le_refl _) _
  have S1 := Lib.hid (hs.below hA)
  have VA := Lib.hid (fun W (h : Fs (fun k => k = b) w W) => hv.fs h hbv)
  have L1 := Lib.hid (Flat.Own.empty (F := FRecord) w (base := w.heap.size) (Nat.le_refl _))
  have HOK := Lib.hid hok
  have SX := Lib.hid (ha.below hA)
  have BA := Lib.hid hA
  clear hs hv ha hok hch hsm0 hA
  go_enter Try.func16, Try.ntmps16
  go_wp2_with fail
  refine (l09Ok_any bv 0 n t bs sm wk _ (VA.out _ (Fs.of_below BA.out)) SX.out).mono ?_
  rintro e w1 ⟨rfl, b1⟩
  rw [HOK.out]
  have B1 := Lib.hid (BA.out.trans (b1.mono BA.out.size))
  have S2 := Lib.hid (S1.out.below b1)
  have L2 := Lib.hid (L1.out.below b1)
  have hw0 : w.heap.size < w1.heap.size := by have := b1.size; simp at this; omega
  clear b1 SX
  go_wp2_with fail
  refine (l09Fresh_any bv 0 sm n t bs wk _ (VA.out _ (Fs.of_below B1.out)) (by omega)).mono ?_
  rintro e w2 ⟨vl, vr, rfl, p2, b2⟩
  obtain ⟨gl, cl, gr, cr, rfl, rfl, hne, hl1, hr1, hl2, hr2, hd⟩ := DeskIs.of_pair p2 (by omega)
  have bD : Below w2.heap.size w2 (w2.alloc (.cells #[.slice (some ⟨gl, 0, none⟩) sm cl, .slice (some ⟨gr, 0, none⟩) sm cr, .int .i64 0] 37)) := (Below.refl _ _).alloc (Nat.le_refl _) _
  obtain ⟨W3, hW3⟩ : ∃ W3, W3 = w2.alloc (.cells #[.slice (some ⟨gl, 0, none⟩) sm cl, .slice (some ⟨gr, 0, none⟩) sm cr, .int .i64 0] 37) := ⟨_, rfl⟩
  rw [← hW3] at hd bD
  have hz12 := b2.size
  have hzw := B1.out.size
  have HIN := Lib.hid (show HistSt w b w2.heap.size gl cl gr cr sm K 0 (.slice (some ⟨w.heap.size, 0, none⟩) 0 0) W3 from
    ⟨[], _, _, _, (S2.out.below b2).below bD, deskOk_new sm, (by
      obtain ⟨q1, q2, q3, q4, q5, q6, q7⟩ := hd
      exact ⟨q1, q2.lower (by omega), q3.lower (by omega), q4, q5, q6, q7⟩), (L2.out.below b2).below bD, Nat.le_refl _, (fun g hg => by
      simp only [Value.ownBlock, Option.some.injEq] at hg
      refine ⟨?_, ?_, ?_⟩ <;> omega), Fs.of_below ((B1.out.trans (b2.mono B1.out.size)).trans (bD.mono (by omega)))⟩)
  have HW3 := Lib.hid hW3
  clear p2 b2 hd bD hW3 L1 L2 S1 S2
  unfold deskV
  go_wp2_with fail
  rw [← HW3.out]
  refine (pick_any b K 14 _ HIN.out.src (by omega)).mono ?_
  rintro e w4 ⟨y, rfl, hy0, hy1, s4, g4⟩
  obtain ⟨Y, rfl⟩ := Int.eq_ofNat_of_zero_le hy0
  have hY : Y ≤ 13 := by omega
  have hDb : ¬ w2.heap.size = b := by omega
  have H4 := Lib.hid (HIN.out.pick hbw hDb s4 g4)
  have hDw : w.heap.size ≤ w2.heap.size := by omega
  clear s4 g4 hy0 hy1 HIN
  go_wp2
  go_loopw [5, 7] (fun v kk wr => ∃ j : Nat, j ≤ Y ∧ kk = .int .i64 j ∧ HistSt w b w2.heap.size gl cl gr cr sm (K + 2 + 100 * (14 - j)) (14 - j) v wr) (fun _ kk _ => (intOf kk).toNat)
  case atStart => exact ⟨Y, Nat.le_refl _, rfl, H4.out.more (by omega) (by omega)⟩
  case round =>
    clear H4
    obtain ⟨j, hj, rfl, hst⟩ := hrel
    have HST := Lib.hid hst
    by_cases hj0 : 0 < j
    · have i0 : (0 : Int) < (j : Int) := by omega
      obtain ⟨⟨p9, p0, p1, p2⟩, p3, p4, p5⟩ := VA.out _ HST.out.fr
      simp only [Nat.zero_add] at p0 p1 p2 p3 p4 p5
      clear hst
      go_wp2_with fail
      refine (pick_any b _ sm _ HST.out.src (by omega)).mono ?_
      rintro e w5 ⟨y, rfl, hy0, hy1, s5, g5⟩
      obtain ⟨y, rfl⟩ := Int.eq_ofNat_of_zero_le hy0
      have hys : y < sm := by omega
      have H5 := Lib.hid (HST.out.pick hbw hDb s5 g5)
      clear hy0 hy1 s5 g5 p9 p0 p1 p2 p3 p4 p5
      obtain ⟨hs, l, r, q, k1, k2, k3, k4, k5, k6, k7⟩ := H5.out
      obtain ⟨e1, e2, e3, e4, e5⟩ := id k2
      replace e1 : l.length = sm := e1
      obtain ⟨_, d0, d1, d2, _⟩ := id k3.at_
      simp only [Nat.zero_add] at d0 d1 d2
      rw [e1] at d0 d1
      have hyl : y < l.length := by omega
      have gl0 := k3.ol.cell hyl
      have hlv := e3 _ (List.getElem_mem hyl)
      generalize l[y] = lv at gl0 hlv
      have r1 : IntKind.i64.wrap (lv + 1) = lv + 1 := IntWalk.i64_in _ (by omega)
      have i1 : (y : Int) < (sm : Int) := by omega
      have i2 : (0 : Int) ≤ (y : Int) := by omega
      have HVL := Lib.hid (show ∀ g, u5.ownBlock = some g → g < w5.heap.size from fun g hg => (World.ownsRow.lt (show w5.ownsRow w.heap.size FRecord.E FRecord.size u5 hs.length (FRecord.encs hs) from k4) g hg).2)
      have hD5 : w2.heap.size < w5.heap.size := k3.at_.1
      have hl5 := (k3.ol.lt gl rfl).2
      have hr5 := (k3.or_.lt gr rfl).2
      have bR : Below w5.heap.size w5 (w5.alloc (.cells #[.int .i64 1, .int .i64 y, .int .i64 (lv + 1)] 42)) := (Below.refl _ _).alloc (Nat.le_refl _) _
      have H6 := Lib.hid (H5.out.new bR)
      have BX6 := Lib.hid (BoxN.newR w5 1 y (lv + 1))
      obtain ⟨W6, hW6⟩ : ∃ W6, W6 = w5.alloc (.cells #[.int .i64 1, .int .i64 y, .int .i64 (lv + 1)] 42) := ⟨_, rfl⟩
      rw [← hW6] at H6 BX6
      have HW6 := Lib.hid hW6
      obtain ⟨rb, hrb⟩ : ∃ rb, rb = w5.heap.size := ⟨_, rfl⟩
      rw [← hrb] at BX6 HVL hD5 hl5 hr5
      have hrw : w.heap.size ≤ rb := by omega
      have hrbb : ¬ rb = b := by omega
      have HRB := Lib.hid hrb
      clear k1 k2 k3 k4 k5 k6 k7 e1 e2 e3 e4 e5 bR hW6 hyl
      go_wp2_with fail
      rw [← HW6.out, ← HRB.out]
      refine (pick_any b _ 3 _ H6.out.src (by omega)).mono ?_
      rintro e w7 ⟨y3, rfl, hz0, hz1, s7, g7⟩
      have H7 := Lib.hid (H6.out.pick hbw hDb s7 g7)
      have BX7 := Lib.hid (BX6.out.fs g7 hrbb)
      clear s7 g7 d0 d1 d2 gl0 hrb hz0 hz1
      go_upto_block 2 with (fail)
      go_cut [] (fun wd => HistR w b w2.heap.size gl cl gr cr sm (K + 2 + 100 * (14 - j) + 10) (14 - j) rb u5 wd)
      case first =>
        obtain ⟨⟨p9, p0, p1, p2⟩, p3, p4, p5⟩ := VA.out _ H7.out.fr
        simp only [Nat.zero_add] at p0 p1 p2 p3 p4 p5
        by_cases h30 : y3 = 0
        · subst h30
          go_wp2_with fail
          refine (pick_any b _ n _ H7.out.src (by omega)).mono ?_
          rintro e w8 ⟨z, rfl, hz0, hz1, s8, g8⟩
          have H8 := Lib.hid (H7.out.pick hbw hDb s8 g8)
          have b8 := BX7.out.fs g8 hrbb
          have c0 := b8.c.get 0 _ rfl
          have c1 := b8.c.get 1 _ rfl
          have c2 := b8.c.get 2 _ rfl
          have f0 := b8.f 0
          have f1 := b8.f 1
          have f2 := b8.f 2
          have R9 := Lib.hid (show HistR w b w2.heap.size gl cl gr cr sm _ (14 - j) rb u5 _ from ⟨H8.out.box hbw hrw hD5 hl5 hr5 HVL.out (Fs.set3 w8 rb (.int .i64 2) (.int .i64 y) (.int .i64 z)), _, _, _, b8.set3R 2 y z⟩)
          clear b8 s8 g8 hz0 hz1 p9 p0 p1 p2 p3 p4 p5
          go_wp2_with fail
          go_meet
          case rel => exact R9.out.more (by omega)
        · have t0 : (y3 == 0) = false := by simp [h30]
          by_cases h31 : y3 = 1
          · subst h31
            clear h30
            obtain ⟨hs, l, r, q, k1, k2, k3, k4, k5, k6, k7⟩ := H7.out
            obtain ⟨e1, e2, e3, e4, e5⟩ := id k2
            replace e4 : 0 ≤ q := e4
            replace e5 : q ≤ (sm : Int) := e5
            obtain ⟨_, d0, d1, d2, _⟩ := id k3.at_
            simp only [Nat.zero_add] at d0 d1 d2
            have r2 : IntKind.i64.wrap ((sm : Int) - 1) = (sm : Int) - 1 := IntWalk.i64_in _ (by omega)
            have b8 := BX7.out
            have c0 := b8.c.get 0 _ rfl
            have c1 := b8.c.get 1 _ rfl
            have c2 := b8.c.get 2 _ rfl
            have f0 := b8.f 0
            have f1 := b8.f 1
            have f2 := b8.f 2
            have R9 := Lib.hid (fun (W : World) (h : Below w7.heap.size w7 W) (z : Int) => show HistR w b w2.heap.size gl cl gr cr sm _ (14 - j) rb u5 _ from ⟨(H7.out.new h).box hbw hrw hD5 hl5 hr5 HVL.out (Fs.set3 W rb (.int .i64 3) (.int .i64 z) (.int .i64 0)), _, _, _, (BX7.out.fs (S := fun _ => False) (Fs.of_below h) (fun h => h)).set3R 3 z 0⟩)
            clear k1 k2 k3 k4 k5 k6 k7 e1 e2 e3 b8 p9 p0 p1 p2 p3 p5
            go_wp2_with fail
            go_region_law (first
              | (go_simp; go_at_call 32; refine (l00Min_any q ((sm : Int) - 1) _).mono ?_; rintro e w8 ⟨z, rfl, hz, rfl⟩)
              | fail "no arm")
            all_goals
              go_wp2_with fail
              go_meet
              case rel => exact ((R9.out _ (Below.refl _ _) z).new (Below.refl _ _).drew).more (by omega)
          · have t1 : (y3 == 1) = false := by simp [h31]
            clear h30 h31 p9 p0 p1 p2 p3 p4 p5
            go_wp2_with fail
            go_meet
            case rel => exact ⟨H7.out.more (by omega) (Nat.le_refl _), _, _, _, BX7.out⟩
      case rest =>
        obtain ⟨h8, k, s, x, bx8⟩ := hcut
        have H8 := Lib.hid h8
        have BX8 := Lib.hid bx8
        clear h8 bx8 H7 BX7 H6 BX6 H5
        go_wp2_with fail
        refine (one_any b _ 24 _ H8.out.src (by omega)).mono ?_
        rintro e w9 ⟨A, rfl, s9, g9⟩
        have H9 := Lib.hid (H8.out.pick hbw hDb s9 g9)
        have BX9 := Lib.hid (BX8.out.fs g9 hrbb)
        clear s9 g9
        go_upto_if 62 with (fail)
        go_cut [] (fun wd => HistR w b w2.heap.size gl cl gr cr sm (K + 2 + 100 * (14 - j) + 40) (14 - j) rb u5 wd)
        case first =>
          cases A
          · skip
            go_wp2_with fail
            go_meet
            case rel => exact ⟨H9.out.more (by omega) (Nat.le_refl _), _, _, _, BX9.out⟩
          · skip
            go_wp2_with fail
            refine (l09AnyRecord_any b bv _ n sm t bs wk _ H9.out.src (by omega) (VA.out _ H9.out.fr) hbv (by omega) (by omega)).mono ?_
            rintro e w10 ⟨k', s', x', rfl, s10, g10⟩
            have H10 := Lib.hid (H9.out.pick hbw hDb s10 g10)
            have b10 := BX9.out.fs g10 hrbb
            have c0 := b10.c.get 0 _ rfl
            have c1 := b10.c.get 1 _ rfl
            have c2 := b10.c.get 2 _ rfl
            have f0 := b10.f 0
            have f1 := b10.f 1
            have f2 := b10.f 2
            have R10 := Lib.hid (show HistR w b w2.heap.size gl cl gr cr sm _ (14 - j) rb u5 _ from ⟨H10.out.box hbw hrw hD5 hl5 hr5 HVL.out (Fs.set3 w10 rb (.int .i64 k') (.int .i64 s') (.int .i64 x')), _, _, _, b10.set3R k' s' x'⟩)
            clear b10 s10 g10
            go_wp2_with fail
            go_meet
            case rel => exact R10.out.more (by omega)
        case rest =>
          obtain ⟨h10, k, s, x, bx10⟩ := hcut
          have H10 := Lib.hid h10
          have BX10 := Lib.hid bx10
          have c0 := bx10.c.get 0 _ rfl
          have c1 := bx10.c.get 1 _ rfl
          have c2 := bx10.c.get 2 _ rfl
          clear h10 bx10 H9 BX9 H8 BX8
          go_wp2_with fail
          refine (l09Record_any bv 0 n t bs sm wk k s x _ (VA.out _ H10.out.fr) (by omega) (by omega) (by omega) (by omega)).mono ?_
          rintro e w11 ⟨rfl, b11⟩
          generalize hrk : recOk n sm k s x = RK
          have HRK := Lib.hid hrk
          have H11 := Lib.hid (H10.out.new b11)
          have BX11 := Lib.hid (BX10.out.fs (S := fun _ => False) (Fs.of_below b11) (fun h => h))
          clear b11 hrk c0 c1 c2 H10 BX10
          cases RK
          · skip
            go_wp2_with fail
            refine (one_any b _ 6 _ H11.out.src (by omega)).mono ?_
            rintro e w12 ⟨A, rfl, s12, g12⟩
            have H12 := Lib.hid (H11.out.pick hbw hDb s12 g12)
            have BX12 := Lib.hid (BX11.out.fs g12 hrbb)
            clear s12 g12
            cases A
            · skip
              go_wp2
              exact ⟨⟨j - 1, by omega, vi (by omega), H12.out.more (by omega) (by omega)⟩, by simp [intOf]; omega⟩
            · skip
              obtain ⟨ka, sa, xa, bxa⟩ : ∃ k s x : Int, BoxN w12 rb [.int .i64 k, .int .i64 s, .int .i64 x] := ⟨_, _, _, BX12.out⟩
              have c0 := bxa.c.get 0 _ rfl
              have c1 := bxa.c.get 1 _ rfl
              have c2 := bxa.c.get 2 _ rfl
              have bA : Below w12.heap.size w12 (w12.alloc (.cells #[.int .i64 ka, .int .i64 sa, .int .i64 xa] 42)) := (Below.refl _ _).alloc (Nat.le_refl _) _
              obtain ⟨hs, l, r, q, k1, k2, k3, k4, k5, k6, k7⟩ := H12.out.new bA
              have rdn : Rd (w12.alloc (.cells #[.int .i64 ka, .int .i64 sa, .int .i64 xa] 42)) (some ⟨w12.heap.size, 0, none⟩) (FRecord.encs [(ka, sa, xa)]) := rd_new w12 #[.int .i64 ka, .int .i64 sa, .int .i64 xa] 42
              have hln : hs.length + [(ka, sa, xa)].length ≤ 16777216 := by simp; omega
              have hz : w.heap.size ≤ (w12.alloc (.cells #[.int .i64 ka, .int .i64 sa, .int .i64 xa] 42)).heap.size := k7.size
              have HKS := Lib.hid (And.intro k1 (And.intro k2 (And.intro k3 (And.intro k5 (And.intro k6 k7)))))
              clear k1 k2 k3 k5 k6 k7 bxa bA
              go_wp2_with (at_builtin; refine Flat.append FRecord _ _ _ rfl rfl rfl k4 rfl rdn hln hz ?_)
              intro v' w' o' g' b'
              obtain ⟨k1, k2, k3, k5, k6, k7⟩ := HKS.out
              have HN := Lib.hid (HistSt.add2 k1 k2 k3 k4 k5 k6 k7 hbw g' o')
              clear k1 k2 k3 k4 k5 k6 k7 o' g' b' rdn c0 c1 c2
              go_wp2
              exact ⟨⟨j - 1, by omega, vi (by omega), HN.out.more (by omega) (by omega)⟩, by simp [intOf]; omega⟩
          · obtain ⟨hkind, ja, va, rfl, rfl, _, _⟩ := recOk_nat HRK.out (by omega) (by omega)
            obtain ⟨hs, l, r, q, k1, k2, k3, k4, k5, k6, k7⟩ := H11.out
            obtain ⟨e1, e2, e3, e4, e5⟩ := id k2
            replace e1 : l.length = sm := e1
            replace e4 : 0 ≤ q := e4
            replace e5 : q ≤ (sm : Int) := e5
            have hxr := inR_iff.1 (by have h := HRK.out; unfold recOk at h; rw [Bool.and_eq_true] at h; exact h.1)
            have hjl : ja < l.length := by omega
            have c0 := BX11.out.c.get 0 _ rfl
            have c1 := BX11.out.c.get 1 _ rfl
            have c2 := BX11.out.c.get 2 _ rfl
            have HLN := Lib.hid (fun e w' (h : LearnP w11 w.heap.size w2.heap.size 0 gl cl gr cr l r q k ja va e w') => HistSt.learn k1 k2 k3 k4 k5 k6 k7 hbw hDw HRK.out h)
            have HLC := Lib.hid (l09Learn_any k q va w11 hkind k3 hjl (by omega) (fun y hy => by have := e3 y hy; omega) e4 (by omega))
            have BXL := Lib.hid (show ∀ w', Fr (In3 w2.heap.size gl gr) w11 w' → BoxN w' rb [.int .i64 k, .int .i64 ja, .int .i64 va] from fun w' h => BX11.out.fs (S := In3 w2.heap.size gl gr) ⟨h.os, h.tape, h.output, h.size, h.block⟩ (fun hh => by rcases hh with hh | hh | hh <;> omega))
            clear k1 k2 k3 k4 k5 k6 k7 e1 e2 e3 hxr
            go_wp2_with fail
            refine HLC.out.mono ?_
            rintro e w12 hlp
            have H12 := Lib.hid (HLN.out _ _ hlp)
            have BX12 := Lib.hid (BXL.out _ hlp.2.1.toFr)
            obtain ⟨rfl, _, _⟩ := hlp
            generalize (learnF l r q k ja va).isSome = LS
            clear HLN HLC BXL c0 c1 c2
            cases LS
            · skip
              go_wp2_with fail
              refine (one_any b _ 12 _ H12.out.src (by omega)).mono ?_
              rintro e w13 ⟨A, rfl, s13, g13⟩
              have H13 := Lib.hid (H12.out.pick hbw hDb s13 g13)
              have BX13 := Lib.hid (BX12.out.fs g13 hrbb)
              clear s13 g13
              cases A
              · skip
                go_wp2
                exact ⟨⟨j - 1, by omega, vi (by omega), H13.out.more (by omega) (by omega)⟩, by simp [intOf]; omega⟩
              · skip
                obtain ⟨ka, sa, xa, bxa⟩ : ∃ k s x : Int, BoxN w13 rb [.int .i64 k, .int .i64 s, .int .i64 x] := ⟨_, _, _, BX13.out⟩
                have c0 := bxa.c.get 0 _ rfl
                have c1 := bxa.c.get 1 _ rfl
                have c2 := bxa.c.get 2 _ rfl
                have bA : Below w13.heap.size w13 (w13.alloc (.cells #[.int .i64 ka, .int .i64 sa, .int .i64 xa] 42)) := (Below.refl _ _).alloc (Nat.le_refl _) _
                obtain ⟨hs, l, r, q, k1, k2, k3, k4, k5, k6, k7⟩ := H13.out.new bA
                have rdn : Rd (w13.alloc (.cells #[.int .i64 ka, .int .i64 sa, .int .i64 xa] 42)) (some ⟨w13.heap.size, 0, none⟩) (FRecord.encs [(ka, sa, xa)]) := rd_new w13 #[.int .i64 ka, .int .i64 sa, .int .i64 xa] 42
                have hln : hs.length + [(ka, sa, xa)].length ≤ 16777216 := by simp; omega
                have hz : w.heap.size ≤ (w13.alloc (.cells #[.int .i64 ka, .int .i64 sa, .int .i64 xa] 42)).heap.size := k7.size
                have HKS := Lib.hid (And.intro k1 (And.intro k2 (And.intro k3 (And.intro k5 (And.intro k6 k7)))))
                clear k1 k2 k3 k5 k6 k7 bxa bA
                go_wp2_with (at_builtin; refine Flat.append FRecord _ _ _ rfl rfl rfl k4 rfl rdn hln hz ?_)
                intro v' w' o' g' b'
                obtain ⟨k1, k2, k3, k5, k6, k7⟩ := HKS.out
                have HN := Lib.hid (HistSt.add2 k1 k2 k3 k4 k5 k6 k7 hbw g' o')
                clear k1 k2 k3 k4 k5 k6 k7 o' g' b' rdn c0 c1 c2
                go_wp2
                exact ⟨⟨j - 1, by omega, vi (by omega), HN.out.more (by omega) (by omega)⟩, by simp [intOf]; omega⟩
            · skip
              obtain ⟨ka, sa, xa, bxa⟩ : ∃ k s x : Int, BoxN w12 rb [.int .i64 k, .int .i64 s, .int .i64 x] := ⟨_, _, _, BX12.out⟩
              have c0 := bxa.c.get 0 _ rfl
              have c1 := bxa.c.get 1 _ rfl
              have c2 := bxa.c.get 2 _ rfl
              have bA : Below w12.heap.size w12 (w12.alloc (.cells #[.int .i64 ka, .int .i64 sa, .int .i64 xa] 42)) := (Below.refl _ _).alloc (Nat.le_refl _) _
              obtain ⟨hs, l, r, q, k1, k2, k3, k4, k5, k6, k7⟩ := H12.out.new bA
              have rdn : Rd (w12.alloc (.cells #[.int .i64 ka, .int .i64 sa, .int .i64 xa] 42)) (some ⟨w12.heap.size, 0, none⟩) (FRecord.encs [(ka, sa, xa)]) := rd_new w12 #[.int .i64 ka, .int .i64 sa, .int .i64 xa] 42
              have hln : hs.length + [(ka, sa, xa)].length ≤ 16777216 := by simp; omega
              have hz : w.heap.size ≤ (w12.alloc (.cells #[.int .i64 ka, .int .i64 sa, .int .i64 xa] 42)).heap.size := k7.size
              have HKS := Lib.hid (And.intro k1 (And.intro k2 (And.intro k3 (And.intro k5 (And.intro k6 k7)))))
              clear k1 k2 k3 k5 k6 k7 bxa bA
              go_wp2_with (at_builtin; refine Flat.append FRecord _ _ _ rfl rfl rfl k4 rfl rdn hln hz ?_)
              intro v' w' o' g' b'
              obtain ⟨k1, k2, k3, k5, k6, k7⟩ := HKS.out
              have HN := Lib.hid (HistSt.add2 k1 k2 k3 k4 k5 k6 k7 hbw g' o')
              clear k1 k2 k3 k4 k5 k6 k7 o' g' b' rdn c0 c1 c2
              go_wp2
              exact ⟨⟨j - 1, by omega, vi (by omega), HN.out.more (by omega) (by omega)⟩, by simp [intOf]; omega⟩
    · obtain rfl : j = 0 := by omega
      obtain ⟨hs, l, r, q, k1, k2, k3, k4, k5, k6, k7⟩ := hst
      go_wp2
      go_ret
      exact ⟨_, hs, rfl, by omega, k4, k7⟩
end Go.Proofs.Ytihjadffdjjogaa
namespace Go.Proofs.Ytihjadffdjjogaa
open Go.RowKit Go.Sort
def SelSt (w0 : World) (D gl cl gr cr sm : Nat) (st : Int) (N : Nat) (v : Value) (wc : World) : Prop :=
  ∃ (out : List (Int × Int × Int)) (l r : List Int) (q : Int), DeskOk sm (l, r, q) ∧ DeskIs wc w0.heap.size D 0 gl cl gr cr l r q ∧ FRecord.Own wc w0.heap.size v out ∧ out.length ≤ N ∧ (∀ g, v.ownBlock = some g → g ≠ D ∧ g ≠ gl ∧ g ≠ gr) ∧ Below w0.heap.size w0 wc ∧
    (∀ x ∈ out, recOk st sm x.1 x.2.1 x.2.2 = true) ∧ learnAll out (List.replicate sm 0, List.replicate sm (-1), 0) = some (l, r, q)
theorem learnAll_snoc {out : List (Int × Int × Int)} {d d1 d2 : List Int × List Int × Int} {x : Int × Int × Int} (h : learnAll out d = some d1) (h2 : learn3 d1 x = some d2) : learnAll (out ++ [x]) d = some d2 := by
  rw [learnAll_app, h]
  show (match learn3 d1 x with | some d' => learnAll [] d' | none => none) = _
  rw [h2]; rfl
/-- a record learned: what is kept -/
theorem sel_fr {w0 wc w' : World} {D gl cl gr cr : Nat} {l r : List Int} {q : Int} {v : Value} {out : List (Int × Int × Int)} (hD : w0.heap.size ≤ D) (k3 : DeskIs wc w0.heap.size D 0 gl cl gr cr l r q) (k4 : FRecord.Own wc w0.heap.size v out) (k6 : ∀ g, v.ownBlock = some g → g ≠ D ∧ g ≠ gl ∧ g ≠ gr) (kb : Below w0.heap.size w0 wc) (hfr : Fr (In3 D gl gr) wc w') :
    FRecord.Own w' w0.heap.size v out ∧ Below w0.heap.size w0 w' := by
  have hf : Fs (In3 D gl gr) wc w' := ⟨hfr.os, hfr.tape, hfr.output, hfr.size, hfr.block⟩
  have e1 := (k3.ol.lt gl rfl).1
  have e2 := (k3.or_.lt gr rfl).1
  refine ⟨recs_fs k4 hf (fun g hg h => ?_), kb.trans (hfr.below kb.size (fun k hk => by rcases hk with rfl | rfl | rfl <;> omega))⟩
  obtain ⟨n1, n2, n3⟩ := k6 g hg
  rcases h with rfl | rfl | rfl
  · exact n1 rfl
  · exact n2 rfl
  · exact n3 rfl
theorem SelSt.add {w0 : World} {D gl cl gr cr sm N : Nat} {st : Int} {v v' : Value} {wc w' : World} {out : List (Int × Int × Int)} {l r : List Int} {q : Int} {x : Int × Int × Int} (k2 : DeskOk sm (l, r, q)) (k3 : DeskIs wc w0.heap.size D 0 gl cl gr cr l r q) (k4 : FRecord.Own wc w0.heap.size v out) (k5 : out.length ≤ N) (k6 : ∀ g, v.ownBlock = some g → g ≠ D ∧ g ≠ gl ∧ g ≠ gr) (kb : Below w0.heap.size w0 wc) (k7 : ∀ x ∈ out, recOk st sm x.1 x.2.1 x.2.2 = true)
    (k8 : learnAll (out ++ [x]) (List.replicate sm 0, List.replicate sm (-1), 0) = some (l, r, q)) (hx : recOk st sm x.1 x.2.1 x.2.2 = true) (hg : wc.grownBy w' v.ownBlock) (ho : FRecord.Own w' w0.heap.size v' (out ++ [x])) : SelSt w0 D gl cl gr cr sm st (N + 1) v' w' := by
  have hf : Fs (fun k => v.ownBlock = some k) wc w' := Fs.of_grown hg (fun g hg => hg)
  have hlt : ∀ g, v.ownBlock = some g → w0.heap.size ≤ g := fun g hg => (World.ownsRow.lt (show wc.ownsRow w0.heap.size FRecord.E FRecord.size v out.length (FRecord.encs out) from k4) g hg).1
  have h3' := k3.fs hf (fun e => (k6 _ e).1 rfl) (fun e => (k6 _ e).2.1 rfl) (fun e => (k6 _ e).2.2 rfl)
  refine ⟨_, l, r, q, k2, h3', ho, by simp; omega, recs_apart ho h3', kb.trans (hf.below kb.size hlt), fun y hy => ?_, k8⟩
  rcases List.mem_append.1 hy with h | h
  · exact k7 y h
  · rw [List.mem_singleton.1 h]; exact hx

set_option maxRecDepth 100000 in
set_option maxHeartbeats 8000000 in
theorem A2Records_any {sv : Value} {xss : List (List Int)} {xs : List Int} (ad : Option Addr) (an ac n sm : Nat) (t bs wk : Int) (w : World) (hn : an ≤ 4096) (hx : xs.length = an) (hr : Rd w ad (xs.map (.int .u8))) (hb : ∀ x ∈ xs, 0 ≤ x ∧ x < 256) (ha : SlII w sv xss) (hok : serviceOk n t xss bs sm wk = true) :
    Calls Try.prog 6 #[.slice ad an ac, .agg #[.int .i64 n, .int .i64 t, sv, .int .i64 bs, .int .i64 sm, .int .i64 wk]] w fun e w' => ∃ (v : Value) (rs : List (Int × Int × Int)) (d : List Int × List Int × Int), e = .returned v ∧ rs.length ≤ 14 ∧ FRecord.Own w' w.heap.size v rs ∧ (∀ x ∈ rs, recOk n sm x.1 x.2.1 x.2.2 = true) ∧ learnAll rs (List.replicate sm 0, List.replicate sm (-1), 0) = some d ∧ Below w.heap.size w w' := by
  have HAA := Lib.hid (fun W (h : Below w.heap.size w W) => ha.below h)
  obtain ⟨sa, sc, us, rfl, _, _, _, _, _⟩ := id ha
  have hsm := hok
  unfold serviceOk at hsm
  rw [Bool.and_eq_true, Bool.and_eq_true] at hsm
  obtain ⟨hch, hsm0, _⟩ := hsm
  obtain ⟨hsm1, hsm2⟩ := inR_iff.1 hsm0
  obtain ⟨⟨hn1, hn2⟩, _, _, _⟩ := chainOk_parts0 hch
  have hA : Below w.heap.size w (w.alloc (svObj n t (.slice sa xss.length sc) bs sm wk)) := (Below.refl _ _).alloc (Nat.le_refl _) _
  have V1 := Lib.hid (svBox w n t (.slice sa xss.length sc) bs sm wk)
  have HR := Lib.hid (hr.below hA)
  have HB := Lib.hid hb
  have HX := Lib.hid hx
  have HOK := Lib.hid hok
  obtain ⟨W1, hW1⟩ : ∃ W1, W1 = w.alloc (svObj n t (.slice sa xss.length sc) bs sm wk) := ⟨_, rfl⟩
  rw [← hW1] at hA V1 HR
  have Z1 := Lib.hid (show W1.heap.size = w.heap.size + 1 by rw [hW1]; simp)
  have HW1 := Lib.hid (show w.alloc (.cells #[.int .i64 n, .int .i64 t, .slice sa xss.length sc, .int .i64 bs, .int .i64 sm, .int .i64 wk] 28) = W1 from hW1.symm)
  have BA := Lib.hid hA
  clear hr hb hx ha hok hch hsm0 hA hW1
  go_enter Try.func6, Try.ntmps6
  go_wp2_with fail
  rw [HW1.out]
  refine (l00From_any ad an ac _ hn HX.out HR.out HB.out).mono ?_
  rintro e w1 ⟨rfl, s1, b1⟩
  have V2 := Lib.hid (V1.out.below b1)
  have B1 := Lib.hid (BA.out.trans (b1.mono BA.out.size))
  have hne : w.heap.size ≠ W1.heap.size := by have := Z1.out; omega
  go_wp2_with fail
  refine (l09History_any W1.heap.size w.heap.size 0 n sm t bs wk _ s1 (by omega) V2.out (HAA.out _ B1.out) HOK.out hne).mono ?_
  rintro e w2 ⟨hv, hs, rfl, hl, oh, fh⟩
  have B2 := Lib.hid (B1.out.trans (fh.below (B := w.heap.size) B1.out.size (fun k hk => by have := Z1.out; omega)))
  have V3 := Lib.hid (V2.out.fs fh hne)
  have SH := Lib.hid (fun W (h : Below w2.heap.size w2 W) => oh.sl.below h)
  obtain ⟨ha, hc, rfl, _, _, _⟩ := id oh.sl
  have bE : Below w2.heap.size w2 (w2.alloc (.cells #[] 42)) := (Below.refl _ _).alloc (Nat.le_refl _) _
  have L3 := Lib.hid (Flat.Own.empty (F := FRecord) w2 (base := w2.heap.size) (Nat.le_refl _))
  have BE := Lib.hid bE
  have V4 := Lib.hid (V3.out.below bE)
  clear s1 b1 oh fh bE
  go_wp2_with fail
  refine (l09Fresh_any w.heap.size 0 sm n t bs wk _ V4.out (by omega)).mono ?_
  rintro e w3 ⟨vl, vr, rfl, p2, b2⟩
  obtain ⟨gl, cl, gr, cr, rfl, rfl, hgne, hl1, hr1, hl2, hr2, hd⟩ := DeskIs.of_pair p2 (by omega)
  simp only [World.size_alloc] at hl1 hr1
  have bD : Below w3.heap.size w3 (w3.alloc (.cells #[.slice (some ⟨gl, 0, none⟩) sm cl, .slice (some ⟨gr, 0, none⟩) sm cr, .int .i64 0] 37)) := (Below.refl _ _).alloc (Nat.le_refl _) _
  obtain ⟨W4, hW4⟩ : ∃ W4, W4 = w3.alloc (.cells #[.slice (some ⟨gl, 0, none⟩) sm cl, .slice (some ⟨gr, 0, none⟩) sm cr, .int .i64 0] 37) := ⟨_, rfl⟩
  rw [← hW4] at hd bD
  have hz := b2.size
  simp only [World.size_alloc] at hz
  have b24 : Below w2.heap.size w2 W4 := (BE.out.trans (b2.mono (by simp))).trans (bD.mono (by omega))
  have HIN := Lib.hid (show SelSt w2 w3.heap.size gl cl gr cr sm n 0 (.slice (some ⟨w2.heap.size, 0, none⟩) 0 0) W4 from
    ⟨[], _, _, _, deskOk_new sm, (by
      obtain ⟨q1, q2, q3, q4, q5, q6, q7⟩ := hd
      exact ⟨q1, q2.lower (by simp), q3.lower (by simp), q4, q5, q6, q7⟩), (L3.out.below b2).below bD, Nat.le_refl _, (fun g hg => by
      simp only [Value.ownBlock, Option.some.injEq] at hg
      refine ⟨?_, ?_, ?_⟩ <;> omega), b24, by simp, rfl⟩)
  have HW4 := Lib.hid hW4
  clear p2 b2 hd bD hW4 L3 b24
  unfold deskV
  go_wp2_with fail
  rw [← HW4.out]
  have hDw : w2.heap.size ≤ w3.heap.size := by omega
  go_loopw [6, 8] (fun v kk wr => ∃ i : Nat, i ≤ hs.length ∧ kk = .int .i64 i ∧ SelSt w2 w3.heap.size gl cl gr cr sm n i v wr) (fun _ kk _ => hs.length - (intOf kk).toNat)
  case atStart => exact ⟨0, Nat.zero_le _, rfl, HIN.out⟩
  case round =>
    obtain ⟨i, hi, rfl, out, l, r, q, k2, k3, k4, k5, k6, kb, k7, k8⟩ := hrel
    by_cases hlt : i < hs.length
    · have i1 : (i : Int) < (hs.length : Int) := by omega
      obtain ⟨ba, oa, rfl, z0, c0, c1, c2⟩ := FRecord_at (SH.out _ kb) hlt
      have HC := Lib.hid (fun W (h : Below w2.heap.size w2 W) => show W.cell? ⟨ba, oa + i * 3, none⟩ = some (.int .i64 hs[i].1) ∧ W.cell? ⟨ba, oa + i * 3 + 1, none⟩ = some (.int .i64 hs[i].2.1) ∧ W.cell? ⟨ba, oa + i * 3 + 2, none⟩ = some (.int .i64 hs[i].2.2) from by
        obtain ⟨b', o', e', _, d0, d1, d2⟩ := FRecord_at (SH.out W h) hlt
        cases e'
        exact ⟨d0, d1, d2⟩)
      generalize hs[i] = x at c0 c1 c2 HC
      obtain ⟨x0, x1, x2⟩ := x
      dsimp only at c0 c1 c2 HC
      have V5 := Lib.hid (V3.out.below kb)
      have K2 := Lib.hid k2
      have K3 := Lib.hid k3
      have K4 := Lib.hid k4
      have K5 := Lib.hid k5
      have K6 := Lib.hid k6
      have K7 := Lib.hid k7
      have K8 := Lib.hid k8
      have KB := Lib.hid kb
      clear k2 k3 k4 k5 k6 k7 k8 kb
      go_wp2_with fail
      refine (l09Record_any w.heap.size 0 n t bs sm wk x0 x1 x2 _ V5.out (by omega) (by omega) (by omega) (by omega)).mono ?_
      rintro e w5 ⟨rfl, b5⟩
      have KB5 := Lib.hid (KB.out.trans (b5.mono KB.out.size))
      have K35 := Lib.hid (K3.out.below b5)
      have K45 := Lib.hid (K4.out.below b5)
      clear K3 K4 KB b5 c0 c1 c2
      obtain ⟨c0, c1, c2⟩ := HC.out _ KB5.out
      cases hrk : recOk n sm x0 x1 x2
      · clear hrk
        go_wp2_with fail
        go_roundw
        case rel => exact ⟨i + 1, by omega, by go_num, out, l, r, q, K2.out, K35.out, K45.out, by have := K5.out; omega, K6.out, KB5.out, K7.out, K8.out⟩
        case measure => simp [intOf]; omega
      · obtain ⟨hkind, ja, va, rfl, rfl, _, _⟩ := recOk_nat hrk (by omega) (by omega)
        obtain ⟨e1, e2, e3, e4, e5⟩ := id K2.out
        replace e1 : l.length = sm := e1
        replace e4 : 0 ≤ q := e4
        replace e5 : q ≤ (sm : Int) := e5
        have hxr := inR_iff.1 (by have h := hrk; unfold recOk at h; rw [Bool.and_eq_true] at h; exact h.1)
        have hjl : ja < l.length := by omega
        have HRK := Lib.hid hrk
        have HLC := Lib.hid (l09Learn_any x0 q va w5 hkind K35.out hjl (by omega) (fun y hy => by have := e3 y hy; omega) e4 (by omega))
        clear hxr e1 e2 e3 hrk
        go_wp2_with fail
        refine HLC.out.mono ?_
        rintro e w6 ⟨rfl, hfr, hdk⟩
        obtain ⟨o6, kb6⟩ := sel_fr hDw K35.out K45.out K6.out KB5.out hfr.toFr
        have KB6 := Lib.hid kb6
        have O6 := Lib.hid o6
        clear o6 kb6 hfr c0 c1 c2 HLC KB5 K35 K45
        cases hle : learnF l r q x0 ja va with
        | none =>
          rw [hle] at hdk
          have K36 := Lib.hid (hdk l r q rfl)
          clear hdk hle
          go_wp2_with fail
          go_roundw
          case rel => exact ⟨i + 1, by omega, by go_num, out, l, r, q, K2.out, K36.out, O6.out, by have := K5.out; omega, K6.out, KB6.out, K7.out, K8.out⟩
          case measure => simp [intOf]; omega
        | some d =>
          obtain ⟨l', r', q'⟩ := d
          rw [hle] at hdk
          have K36 := Lib.hid (hdk l' r' q' rfl)
          have K26 := Lib.hid (learn3_ok K2.out (x := (x0, (ja : Int), (va : Int))) HRK.out hle)
          have K86 := Lib.hid (learnAll_snoc K8.out (x := (x0, (ja : Int), (va : Int))) hle)
          obtain ⟨c0, c1, c2⟩ := HC.out _ KB6.out
          have bA : Below w6.heap.size w6 (w6.alloc (.cells #[.int .i64 x0, .int .i64 ja, .int .i64 va] 42)) := (Below.refl _ _).alloc (Nat.le_refl _) _
          have K37 := Lib.hid (K36.out.below bA)
          have KB7 := Lib.hid (KB6.out.trans (bA.mono KB6.out.size))
          have k4 := O6.out.below bA
          have rdn : Rd (w6.alloc (.cells #[.int .i64 x0, .int .i64 ja, .int .i64 va] 42)) (some ⟨w6.heap.size, 0, none⟩) (FRecord.encs [(x0, (ja : Int), (va : Int))]) := rd_new w6 #[.int .i64 x0, .int .i64 ja, .int .i64 va] 42
          have hln : out.length + [(x0, (ja : Int), (va : Int))].length ≤ 16777216 := by have := K5.out; simp; omega
          have hz7 : w2.heap.size ≤ (w6.alloc (.cells #[.int .i64 x0, .int .i64 ja, .int .i64 va] 42)).heap.size := KB7.out.size
          clear hdk hle bA
          go_wp2_with (at_builtin; refine Flat.append FRecord _ _ _ rfl rfl rfl k4 rfl rdn hln hz7 ?_)
          intro v' w' o' g' b'
          have HN := Lib.hid (SelSt.add K26.out K37.out k4 K5.out K6.out KB7.out K7.out K86.out HRK.out g' o')
          clear o' g' b' rdn c0 c1 c2 k4
          go_wp2_with fail
          go_roundw
          case rel => exact ⟨i + 1, by omega, by go_num, HN.out⟩
          case measure => simp [intOf]; omega
    · obtain rfl : i = hs.length := by omega
      have HB3 := Lib.hid (B2.out.trans (kb.mono B2.out.size))
      have HO := Lib.hid (k4.lower (base' := w.heap.size) B2.out.size)
      have K5 := Lib.hid k5
      have K7 := Lib.hid k7
      have K8 := Lib.hid k8
      clear k2 k3 k4 k5 k6 k7 k8 kb
      go_wp2_with fail
      exact bodyPost_ret (v := u6) (by simp [results, Try.results6, go_sem]) rfl ⟨_, out, _, rfl, Nat.le_trans K5.out hl, HO.out, K7.out, K8.out, HB3.out⟩
end Go.Proofs.Ytihjadffdjjogaa
namespace Go.Proofs.Ytihjadffdjjogaa
open Go.RowKit Go.Sort
theorem validB {n t : Int} {xss : List (List Int)} {bs sm wk : Int} {rs : List (Int × Int × Int)} (hok : serviceOk n t xss bs sm wk = true) (h : ∀ x ∈ rs, recOk n sm x.1 x.2.1 x.2.2 = true) : validRecsB n t xss bs sm wk rs = true := by
  unfold validRecsB recsOk
  rw [hok]
  simp only [Bool.true_and, Bool.not_eq_true', List.any_eq_false, Bool.not_eq_true', Bool.not_eq_false']
  intro x hx
  rw [h x hx]; decide
theorem deskR_ok {n t : Int} {xss : List (List Int)} {bs wk : Int} {sm : Nat} {rs : List (Int × Int × Int)} {d : List Int × List Int × Int} (hok : serviceOk n t xss bs sm wk = true) (h : ∀ x ∈ rs, recOk n sm x.1 x.2.1 x.2.2 = true) (hd : learnAll rs (List.replicate sm 0, List.replicate sm (-1), 0) = some d) : deskR n t xss bs sm wk rs = (d, 0) := by
  unfold deskR
  rw [if_pos (validB hok h)]
  show (match learnAll rs (List.replicate (sm : Int).toNat 0, List.replicate (sm : Int).toNat (-1), 0) with | some d => (d, (0 : Int)) | none => (([], [], 0), 4)) = _
  rw [Int.toNat_natCast, hd]
theorem jText_list {n t : Int} {xss : List (List Int)} {bs sm wk : Int} {rs : List (Int × Int × Int)} (hok : serviceOk n t xss bs sm wk = true) (h : ∀ x ∈ rs, recOk n sm x.1 x.2.1 x.2.2 = true) : (jTextB n t xss bs sm wk rs).data.toList = textL rs := by
  unfold jTextB
  rw [if_pos (validB hok h), linesR_list]
  rfl
theorem textL_count : ∀ rs : List (Int × Int × Int), (textL rs).count 10 = rs.length
  | [] => rfl
  | x :: r => by
    show (lineL x ++ 10 :: textL r).count 10 = _
    rw [List.count_append, List.count_eq_zero_of_not_mem (line_no x), List.count_cons_self, textL_count r]
    simp
theorem jText_size {n t : Int} {xss : List (List Int)} {bs sm wk : Int} {rs : List (Int × Int × Int)} (hok : serviceOk n t xss bs sm wk = true) (h2 : sm ≤ 8) (h4 : n ≤ 6) (h : ∀ x ∈ rs, recOk n sm x.1 x.2.1 x.2.2 = true) (hl : rs.length ≤ 14) : (jTextB n t xss bs sm wk rs).size ≤ 238 := by
  have e : (jTextB n t xss bs sm wk rs).size = (textL rs).length := by
    rw [← jText_list hok h]; rfl
  rw [e]
  refine Nat.le_trans (textL_len (fun x hx => ?_)) (by omega)
  obtain ⟨_, a, b, ha, hb, ha1, hb1⟩ := recOk_nat (h x hx) h2 h4
  have := recB_size (k := x.1) (s := x.2.1.toNat) (v := x.2.2.toNat) (by omega) (by omega)
  exact this
theorem read_whole {n t : Int} {xss : List (List Int)} {bs sm wk : Int} {rs : List (Int × Int × Int)} (hok : serviceOk n t xss bs sm wk = true) (h2 : sm ≤ 8) (h4 : n ≤ 6) (h : ∀ x ∈ rs, recOk n sm x.1 x.2.1 x.2.2 = true) (hl : rs.length ≤ 14) : jReadR n t xss bs sm wk (jTextB n t xss bs sm wk rs) = (rs, 0) := by
  have hz := jText_size hok h2 h4 h hl
  have e := jText_list hok h
  have hh := (read_torn hok h2 h4 h (textL rs).length (text := jTextB n t xss bs sm wk rs) (by rw [e, List.take_length]) (by omega)).1
  rw [hh, e, textL_count, List.take_length]

set_option maxHeartbeats 4000000 in
theorem SameDesk_same {vl vr ul ur : Value} {l r : List Int} (q : Int) (w : World) (ha : SlI w vl l) (hb : SlI w vr r) (hc : SlI w ul l) (hd : SlI w ur r) :
    Calls Try.prog 11 #[.agg #[vl, vr, .int .i64 q], .agg #[ul, ur, .int .i64 q]] w fun e w' => e = .returned (.bool true) ∧ Below w.heap.size w w' := by
  have bx : Below w.heap.size w ((w.alloc (.cells #[vl, vr, .int .i64 q] 37)).alloc (.cells #[ul, ur, .int .i64 q] 37)) := ((Below.refl _ _).alloc (Nat.le_refl _) _).alloc (by simp) _
  have HA := Lib.hid (ha.below bx)
  have HC := Lib.hid (hc.below bx)
  have HB := Lib.hid (fun W (h : Below w.heap.size w W) => hb.below h)
  have HD := Lib.hid (fun W (h : Below w.heap.size w W) => hd.below h)
  obtain ⟨la, lc, rfl, _⟩ := ha
  obtain ⟨ra, rc, rfl, _⟩ := hb
  obtain ⟨ma, mc, rfl, _⟩ := hc
  obtain ⟨na, nc, rfl, _⟩ := hd
  go_enter Try.func11, Try.ntmps11
  go_wp2_with fail
  refine (l00Same_any _ HA.out HC.out).mono ?_
  rintro e w1 ⟨rfl, b1⟩
  rw [decide_eq_true (rfl : l = l)]
  have a1 := b1.cell (p := ⟨w.heap.size, 1, none⟩) (by simp <;> omega)
  have a2 := b1.cell (p := ⟨w.heap.size, 2, none⟩) (by simp <;> omega)
  have c1 := b1.cell (p := ⟨w.heap.size + 1, 1, none⟩) (by simp)
  have c2 := b1.cell (p := ⟨w.heap.size + 1, 2, none⟩) (by simp)
  simp [go_sem] at a1 a2 c1 c2
  have hb1 := bx.trans (b1.mono bx.size)
  have hz := b1.size
  simp at hz
  have z0 : w.heap.size < w1.heap.size := by omega
  have z1 : w.heap.size + 1 < w1.heap.size := by omega
  clear b1
  go_wp2_with fail
  refine (l00Same_any _ (HB.out _ hb1) (HD.out _ hb1)).mono ?_
  rintro e w2 ⟨rfl, b2⟩
  rw [decide_eq_true (rfl : r = r)]
  have d2 := b2.cell (p := ⟨w.heap.size, 2, none⟩) z0
  have e2 := b2.cell (p := ⟨w.heap.size + 1, 2, none⟩) z1
  rw [a2] at d2
  rw [c2] at e2
  clear a1 a2 c1 c2
  go_wp2
  go_ret
  exact ⟨rfl, hb1.trans (b2.mono hb1.size)⟩
end Go.Proofs.Ytihjadffdjjogaa
