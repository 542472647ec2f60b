/-
  FnJournal: two desks compared, and plain facts of a journal of right records. With it: l09History: the records that the laws draw, not all of which fit. A2Records: records that fit a service.
-/
import Derived.Test.YtijpkcdalmlaiaaZRowFnPlantPackets37
import Derived.Test.YtijpkcdalmlaiaaZRowFnPlantPackets23
import Derived.Test.YtijpkcdalmlaiaaZRowFnPlantPackets19
import Derived.Deep.CutBlock
import Derived.Test.YtijpkcdalmlaiaaZRowFnPlantPackets22
import Derived.Test.YtijpkcdalmlaiaaZRowFnPlantPackets6
set_option linter.unusedVariables false
set_option linter.unusedSimpArgs false
namespace Go.Proofs.Ytijpkcdalmlaiaa
open Go.RowKit Go.Sort
theorem DeskIs.fs {S : Nat → Prop} {w w' : World} {base b o gl cl gr cr : Nat} {lv rs : List Int} {outs : Int} (h : DeskIs w base b o gl cl gr cr lv rs outs) (hf : Fs S w w') (h1 : ¬ S b) (h2 : ¬ S gl) (h3 : ¬ S gr) : DeskIs w' base b o gl cl gr cr lv rs outs := by
  obtain ⟨⟨a0, a1, a2, a3, a4⟩, hl, hr, e1, e2, e3, e4⟩ := h
  have key : ∀ {g c n : Nat} {xs : List Int}, ¬ S g → OwnI w base (.slice (some ⟨g, 0, none⟩) n c) xs → OwnI w' base (.slice (some ⟨g, 0, none⟩) n c) xs := by
    intro g c n xs hg ho
    refine ⟨ho.1, ?_⟩
    rcases ho.2 with ⟨q, _⟩ | ⟨g', c', cur, q1, q2, q3, q4⟩
    · simp at q
    · refine .inr ⟨g', c', cur, q1, q2, ?_, q4⟩
      simp only [Value.slice.injEq, Option.some.injEq, Addr.mk.injEq] at q1
      obtain ⟨⟨rfl, _⟩, _⟩ := q1
      rw [hf.block g (Array.getElem?_eq_some_iff.1 q3).1 hg]; exact q3
  refine ⟨⟨Nat.lt_of_lt_of_le a0 hf.size, by rw [hf.cell (p := ⟨b, o, none⟩) a0 h1]; exact a1, by rw [hf.cell (p := ⟨b, o + 1, none⟩) a0 h1]; exact a2, by rw [hf.cell (p := ⟨b, o + 2, none⟩) a0 h1]; exact a3, by rw [hf.frozen (p := ⟨b, o + 2, none⟩) a0 h1]; exact a4⟩, key h2 hl, key h3 hr, e1, e2, e3, e4⟩
theorem recs_fs {S : Nat → Prop} {w w' : World} {base : Nat} {v : Value} {xs : List (Int × Int × Int)} (h : FRecord.Own w base v xs) (hf : Fs S w w') (hS : ∀ g, v.ownBlock = some g → ¬ S g) : FRecord.Own w' base v xs := by
  refine ⟨h.1, ?_⟩
  rcases h.2 with h2 | ⟨g, c, cur, h1, h2, h3, h4⟩
  · exact .inl h2
  · refine .inr ⟨g, c, cur, h1, h2, ?_, h4⟩
    rw [hf.block g (Array.getElem?_eq_some_iff.1 h3).1 (hS g (by rw [h1]; rfl))]; exact h3
/-- a list of records that is not empty lies apart from a desk -/
theorem recs_apart {w : World} {base base' D gl cl gr cr : Nat} {v : Value} {x : Int × Int × Int} {xs : List (Int × Int × Int)} {l r : List Int} {q : Int} (h : FRecord.Own w base v (xs ++ [x])) (hd : DeskIs w base' D 0 gl cl gr cr l r q) : ∀ g, v.ownBlock = some g → g ≠ D ∧ g ≠ gl ∧ g ≠ gr := by
  intro g hg
  rcases h.forms with ⟨_, h2⟩ | ⟨g', c, rfl, _, _, _⟩
  · simp at h2
  · simp only [Value.ownBlock, Option.some.injEq] at hg
    subst hg
    have hn : 0 < (xs ++ [x]).length := by simp
    refine ⟨fun e => ?_, fun e => ?_, fun e => ?_⟩
    · subst e
      have c0 := (FRecord_cell h hn).1
      have d0 := hd.at_.2.1
      rw [Nat.zero_mul] at c0
      rw [c0] at d0
      simp at d0
    · subst e
      rcases h.2 with ⟨q1, _⟩ | ⟨g1, c1, cur1, q1, _, k1, _⟩
      · simp at q1
      · rcases hd.ol.2 with ⟨p1, _⟩ | ⟨g2, c2, cur2, p1, _, k2, _⟩
        · simp at p1
        · simp only [Value.slice.injEq, Option.some.injEq, Addr.mk.injEq] at q1 p1
          obtain ⟨⟨rfl, _⟩, _⟩ := q1
          obtain ⟨⟨rfl, _⟩, _⟩ := p1
          rw [k1] at k2
          simp [FRecord] at k2
    · subst e
      rcases h.2 with ⟨q1, _⟩ | ⟨g1, c1, cur1, q1, _, k1, _⟩
      · simp at q1
      · rcases hd.or_.2 with ⟨p1, _⟩ | ⟨g2, c2, cur2, p1, _, k2, _⟩
        · simp at p1
        · simp only [Value.slice.injEq, Option.some.injEq, Addr.mk.injEq] at q1 p1
          obtain ⟨⟨rfl, _⟩, _⟩ := q1
          obtain ⟨⟨rfl, _⟩, _⟩ := p1
          rw [k1] at k2
          simp [FRecord] at k2
/-- what is kept while a history is drawn -/
def HistSt (w0 : World) (b D gl cl gr cr sm K N : Nat) (v : Value) (wc : World) : Prop :=
  ∃ (hs : List (Int × Int × Int)) (l r : List Int) (q : Int), SrcB wc b K ∧ DeskOk sm (l, r, q) ∧ DeskIs wc w0.heap.size D 0 gl cl gr cr l r q ∧ FRecord.Own wc w0.heap.size v hs ∧ hs.length ≤ N ∧ (∀ g, v.ownBlock = some g → g ≠ D ∧ g ≠ gl ∧ g ≠ gr) ∧ Fs (fun k => k = b) w0 wc
theorem HistSt.src {w0 : World} {b D gl cl gr cr sm K N : Nat} {v : Value} {wc : World} (h : HistSt w0 b D gl cl gr cr sm K N v wc) : SrcB wc b K := by obtain ⟨_, _, _, _, h, _⟩ := h; exact h
theorem HistSt.fr {w0 : World} {b D gl cl gr cr sm K N : Nat} {v : Value} {wc : World} (h : HistSt w0 b D gl cl gr cr sm K N v wc) : Fs (fun k => k = b) w0 wc := by obtain ⟨_, _, _, _, _, _, _, _, _, _, h⟩ := h; exact h
theorem HistSt.more {w0 : World} {b D gl cl gr cr sm K K' N N' : Nat} {v : Value} {wc : World} (h : HistSt w0 b D gl cl gr cr sm K N v wc) (hK : K ≤ K') (hN : N ≤ N') : HistSt w0 b D gl cl gr cr sm K' N' v wc := by
  obtain ⟨hs, l, r, q, h1, h2, h3, h4, h5, h6, h7⟩ := h
  exact ⟨hs, l, r, q, h1.more hK, h2, h3, h4, by omega, h6, h7⟩
theorem HistSt.fsG {S : Nat → Prop} {w0 : World} {b D gl cl gr cr sm K K' N : Nat} {v : Value} {wc w' : World} (h : HistSt w0 b D gl cl gr cr sm K N v wc) (hf : Fs S wc w') (hb : SrcB w' b K') (h1 : ¬ S D) (h2 : ¬ S gl) (h3 : ¬ S gr) (hv : ∀ g, v.ownBlock = some g → ¬ S g) (h0 : ∀ k, k < w0.heap.size → S k → k = b) : HistSt w0 b D gl cl gr cr sm K' N v w' := by
  obtain ⟨hs, l, r, q, _, k2, k3, k4, k5, k6, k7⟩ := h
  exact ⟨hs, l, r, q, hb, k2, k3.fs hf h1 h2 h3, recs_fs k4 hf hv, k5, k6, (k7.then hf (R := fun k => k = b ∨ S k) (fun k _ h => .inl h) (fun k _ h => .inr h)).cut (fun k hk h => h.elim id (h0 k hk))⟩
-- HISTORY
def HistR (w0 : World) (b D gl cl gr cr sm K N rb : Nat) (v : Value) (wc : World) : Prop := HistSt w0 b D gl cl gr cr sm K N v wc ∧ ∃ k s x : Int, BoxN wc rb [.int .i64 k, .int .i64 s, .int .i64 x]
theorem HistSt.pick {w0 : World} {b D gl cl gr cr sm K K' N : Nat} {v : Value} {wc w' : World} (h : HistSt w0 b D gl cl gr cr sm K N v wc) (hb : b < w0.heap.size) (hD : ¬ D = b) (hs : SrcB w' b K') (hf : Fs (fun k => k = b) wc w') : HistSt w0 b D gl cl gr cr sm K' N v w' := by
  have h' := h
  obtain ⟨hs', l, r, q, _, _, k3, k4, _⟩ := h'
  have e1 := (k3.ol.lt gl rfl).1
  have e2 := (k3.or_.lt gr rfl).1
  exact h.fsG hf hs hD (by omega) (by omega) (fun g hg => by have := (World.ownsRow.lt (show wc.ownsRow w0.heap.size FRecord.E FRecord.size v hs'.length (FRecord.encs hs') from k4) g hg).1; omega) (fun k _ h => h)
theorem HistSt.box {w0 : World} {b D gl cl gr cr sm K N rb : Nat} {v : Value} {wc w' : World} (h : HistSt w0 b D gl cl gr cr sm K N v wc) (hb : b < w0.heap.size) (hrb : w0.heap.size ≤ rb) (hD : D < rb) (hl : gl < rb) (hr : gr < rb) (hv : ∀ g, v.ownBlock = some g → g < rb) (hf : Fs (fun k => k = rb) wc w') : HistSt w0 b D gl cl gr cr sm K N v w' :=
  h.fsG hf (h.src.fs hf (fun k hk => by omega)) (by omega) (by omega) (by omega) (fun g hg => by have := hv g hg; omega) (fun k hk h => by omega)
theorem HistSt.new {w0 : World} {b D gl cl gr cr sm K N : Nat} {v : Value} {wc w' : World} (h : HistSt w0 b D gl cl gr cr sm K N v wc) (hb : Below wc.heap.size wc w') : HistSt w0 b D gl cl gr cr sm K N v w' :=
  h.fsG (S := fun _ => False) (Fs.of_below hb) (h.src.below hb) (fun h => h) (fun h => h) (fun h => h) (fun _ _ h => h) (fun _ _ h => h.elim)
theorem HistR.more {w0 : World} {b D gl cl gr cr sm K K' N rb : Nat} {v : Value} {wc : World} (h : HistR w0 b D gl cl gr cr sm K N rb v wc) (hK : K ≤ K') : HistR w0 b D gl cl gr cr sm K' N rb v wc := ⟨h.1.more hK (Nat.le_refl _), h.2⟩
theorem BoxN.set3R {w : World} {b : Nat} {k s x : Int} (h : BoxN w b [.int .i64 k, .int .i64 s, .int .i64 x]) (k' s' x' : Int) : BoxN (((w.setCell ⟨b, 0, none⟩ (.int .i64 k')).setCell ⟨b, 1, none⟩ (.int .i64 s')).setCell ⟨b, 2, none⟩ (.int .i64 x')) b [.int .i64 k', .int .i64 s', .int .i64 x'] :=
  ((h.setR.1 k').setR.2.1 s').setR.2.2 x'
theorem HistR.new {w0 : World} {b D gl cl gr cr sm K N rb : Nat} {v : Value} {wc w' : World} (h : HistR w0 b D gl cl gr cr sm K N rb v wc) (hb : Below wc.heap.size wc w') : HistR w0 b D gl cl gr cr sm K N rb v w' := by
  obtain ⟨h1, k, s, x, h2⟩ := h
  exact ⟨h1.new hb, k, s, x, h2.fs (S := fun _ => False) (Fs.of_below hb) (fun h => h)⟩
/-- one record more -/
theorem HistSt.add2 {w0 : World} {b D gl cl gr cr sm K N : Nat} {v v' : Value} {wc w' : World} {hs : List (Int × Int × Int)} {l r : List Int} {q : Int} {x : Int × Int × Int} (h1 : SrcB wc b K) (h2 : DeskOk sm (l, r, q)) (h3 : DeskIs wc w0.heap.size D 0 gl cl gr cr l r q) (h4 : FRecord.Own wc w0.heap.size v hs) (h5 : hs.length ≤ N) (h6 : ∀ g, v.ownBlock = some g → g ≠ D ∧ g ≠ gl ∧ g ≠ gr) (h7 : Fs (fun k => k = b) w0 wc)
    (hb : b < w0.heap.size) (hg : wc.grownBy w' v.ownBlock) (ho : FRecord.Own w' w0.heap.size v' (hs ++ [x])) : HistSt w0 b D gl cl gr cr sm K (N + 1) v' w' := by
  have hf : Fs (fun k => v.ownBlock = some k) wc w' := Fs.of_grown hg (fun g hg => hg)
  have hlt : ∀ g, v.ownBlock = some g → w0.heap.size ≤ g := fun g hg => (World.ownsRow.lt (show wc.ownsRow w0.heap.size FRecord.E FRecord.size v hs.length (FRecord.encs hs) from h4) g hg).1
  have h3' := h3.fs hf (fun e => (h6 _ e).1 rfl) (fun e => (h6 _ e).2.1 rfl) (fun e => (h6 _ e).2.2 rfl)
  exact ⟨_, l, r, q, h1.fs hf (fun k hk => by have := hlt k hk; omega), h2, h3', ho, by simp; omega, recs_apart ho h3', (h7.then hf (R := fun k => k = b ∨ v.ownBlock = some k) (fun k _ h => .inl h) (fun k _ h => .inr h)).cut (fun k hk h => h.elim id (fun e => by have := hlt k e; omega))⟩
/-- one record learned, or not -/
theorem HistSt.learn {w0 : World} {b D gl cl gr cr sm K N : Nat} {st : Int} {v : Value} {wc w' : World} {hs : List (Int × Int × Int)} {l r : List Int} {q : Int} {x0 : Int} {j vv : Nat} {e : Ending} (h1 : SrcB wc b K) (h2 : DeskOk sm (l, r, q)) (h3 : DeskIs wc w0.heap.size D 0 gl cl gr cr l r q) (h4 : FRecord.Own wc w0.heap.size v hs) (h5 : hs.length ≤ N) (h6 : ∀ g, v.ownBlock = some g → g ≠ D ∧ g ≠ gl ∧ g ≠ gr) (h7 : Fs (fun k => k = b) w0 wc)
    (hb : b < w0.heap.size) (hD : w0.heap.size ≤ D) (hx : recOk st sm x0 j vv = true) (hl : LearnP wc w0.heap.size D 0 gl cl gr cr l r q x0 j vv e w') : HistSt w0 b D gl cl gr cr sm K N v w' := by
  obtain ⟨_, hfr, hdk⟩ := hl
  have hf : Fs (In3 D gl gr) wc w' := ⟨hfr.os, hfr.tape, hfr.output, hfr.size, hfr.block⟩
  have e1 := (h3.ol.lt gl rfl).1
  have e2 := (h3.or_.lt gr rfl).1
  have hown := recs_fs h4 hf (fun g hg h => by
    obtain ⟨n1, n2, n3⟩ := h6 g hg
    rcases h with rfl | rfl | rfl
    · exact n1 rfl
    · exact n2 rfl
    · exact n3 rfl)
  have hsrc : SrcB w' b K := h1.fs hf (fun k hk => by rcases hk with rfl | rfl | rfl <;> omega)
  have hfs : Fs (fun k => k = b) w0 w' := (h7.then hf (R := fun k => k = b ∨ In3 D gl gr k) (fun k _ h => .inl h) (fun k _ h => .inr h)).cut (fun k hk h => h.elim id (fun h => by rcases h with rfl | rfl | rfl <;> omega))
  cases hle : learnF l r q x0 j vv with
  | none =>
    rw [hle] at hdk
    exact ⟨hs, l, r, q, hsrc, h2, hdk l r q rfl, hown, h5, h6, hfs⟩
  | some d =>
    obtain ⟨l', r', q'⟩ := d
    rw [hle] at hdk
    exact ⟨hs, l', r', q', hsrc, learn3_ok h2 (x := (x0, (j : Int), (vv : Int))) hx hle, hdk l' r' q' rfl, hown, h5, h6, hfs⟩
end Go.Proofs.Ytijpkcdalmlaiaa
namespace Go.Proofs.Ytijpkcdalmlaiaa
open Go.RowKit Go.Sort
def SelSt (w0 : World) (D gl cl gr cr sm : Nat) (st : Int) (N : Nat) (v : Value) (wc : World) : Prop :=
  ∃ (out : List (Int × Int × Int)) (l r : List Int) (q : Int), DeskOk sm (l, r, q) ∧ DeskIs wc w0.heap.size D 0 gl cl gr cr l r q ∧ FRecord.Own wc w0.heap.size v out ∧ out.length ≤ N ∧ (∀ g, v.ownBlock = some g → g ≠ D ∧ g ≠ gl ∧ g ≠ gr) ∧ Below w0.heap.size w0 wc ∧
    (∀ x ∈ out, recOk st sm x.1 x.2.1 x.2.2 = true) ∧ learnAll out (List.replicate sm 0, List.replicate sm (-1), 0) = some (l, r, q)
theorem learnAll_snoc {out : List (Int × Int × Int)} {d d1 d2 : List Int × List Int × Int} {x : Int × Int × Int} (h : learnAll out d = some d1) (h2 : learn3 d1 x = some d2) : learnAll (out ++ [x]) d = some d2 := by
  rw [learnAll_app, h]
  show (match learn3 d1 x with | some d' => learnAll [] d' | none => none) = _
  rw [h2]; rfl
/-- a record learned: what is kept -/
theorem sel_fr {w0 wc w' : World} {D gl cl gr cr : Nat} {l r : List Int} {q : Int} {v : Value} {out : List (Int × Int × Int)} (hD : w0.heap.size ≤ D) (k3 : DeskIs wc w0.heap.size D 0 gl cl gr cr l r q) (k4 : FRecord.Own wc w0.heap.size v out) (k6 : ∀ g, v.ownBlock = some g → g ≠ D ∧ g ≠ gl ∧ g ≠ gr) (kb : Below w0.heap.size w0 wc) (hfr : Fr (In3 D gl gr) wc w') :
    FRecord.Own w' w0.heap.size v out ∧ Below w0.heap.size w0 w' := by
  have hf : Fs (In3 D gl gr) wc w' := ⟨hfr.os, hfr.tape, hfr.output, hfr.size, hfr.block⟩
  have e1 := (k3.ol.lt gl rfl).1
  have e2 := (k3.or_.lt gr rfl).1
  refine ⟨recs_fs k4 hf (fun g hg h => ?_), kb.trans (hfr.below kb.size (fun k hk => by rcases hk with rfl | rfl | rfl <;> omega))⟩
  obtain ⟨n1, n2, n3⟩ := k6 g hg
  rcases h with rfl | rfl | rfl
  · exact n1 rfl
  · exact n2 rfl
  · exact n3 rfl
theorem SelSt.add {w0 : World} {D gl cl gr cr sm N : Nat} {st : Int} {v v' : Value} {wc w' : World} {out : List (Int × Int × Int)} {l r : List Int} {q : Int} {x : Int × Int × Int} (k2 : DeskOk sm (l, r, q)) (k3 : DeskIs wc w0.heap.size D 0 gl cl gr cr l r q) (k4 : FRecord.Own wc w0.heap.size v out) (k5 : out.length ≤ N) (k6 : ∀ g, v.ownBlock = some g → g ≠ D ∧ g ≠ gl ∧ g ≠ gr) (kb : Below w0.heap.size w0 wc) (k7 : ∀ x ∈ out, recOk st sm x.1 x.2.1 x.2.2 = true)
    (k8 : learnAll (out ++ [x]) (List.replicate sm 0, List.replicate sm (-1), 0) = some (l, r, q)) (hx : recOk st sm x.1 x.2.1 x.2.2 = true) (hg : wc.grownBy w' v.ownBlock) (ho : FRecord.Own w' w0.heap.size v' (out ++ [x])) : SelSt w0 D gl cl gr cr sm st (N + 1) v' w' := by
  have hf : Fs (fun k => v.ownBlock = some k) wc w' := Fs.of_grown hg (fun g hg => hg)
  have hlt : ∀ g, v.ownBlock = some g → w0.heap.size ≤ g := fun g hg => (World.ownsRow.lt (show wc.ownsRow w0.heap.size FRecord.E FRecord.size v out.length (FRecord.encs out) from k4) g hg).1
  have h3' := k3.fs hf (fun e => (k6 _ e).1 rfl) (fun e => (k6 _ e).2.1 rfl) (fun e => (k6 _ e).2.2 rfl)
  refine ⟨_, l, r, q, k2, h3', ho, by simp; omega, recs_apart ho h3', kb.trans (hf.below kb.size hlt), fun y hy => ?_, k8⟩
  rcases List.mem_append.1 hy with h | h
  · exact k7 y h
  · rw [List.mem_singleton.1 h]; exact hx
end Go.Proofs.Ytijpkcdalmlaiaa
namespace Go.Proofs.Ytijpkcdalmlaiaa
open Go.RowKit Go.Sort
theorem validB {n t : Int} {xss : List (List Int)} {bs sm wk : Int} {rs : List (Int × Int × Int)} (hok : serviceOk n t xss bs sm wk = true) (h : ∀ x ∈ rs, recOk n sm x.1 x.2.1 x.2.2 = true) : validRecsB n t xss bs sm wk rs = true := by
  unfold validRecsB recsOk
  rw [hok]
  simp only [Bool.true_and, Bool.not_eq_true', List.any_eq_false, Bool.not_eq_true', Bool.not_eq_false']
  intro x hx
  rw [h x hx]; decide
theorem deskR_ok {n t : Int} {xss : List (List Int)} {bs wk : Int} {sm : Nat} {rs : List (Int × Int × Int)} {d : List Int × List Int × Int} (hok : serviceOk n t xss bs sm wk = true) (h : ∀ x ∈ rs, recOk n sm x.1 x.2.1 x.2.2 = true) (hd : learnAll rs (List.replicate sm 0, List.replicate sm (-1), 0) = some d) : deskR n t xss bs sm wk rs = (d, 0) := by
  unfold deskR
  rw [if_pos (validB hok h)]
  show (match learnAll rs (List.replicate (sm : Int).toNat 0, List.replicate (sm : Int).toNat (-1), 0) with | some d => (d, (0 : Int)) | none => (([], [], 0), 4)) = _
  rw [Int.toNat_natCast, hd]
theorem jText_list {n t : Int} {xss : List (List Int)} {bs sm wk : Int} {rs : List (Int × Int × Int)} (hok : serviceOk n t xss bs sm wk = true) (h : ∀ x ∈ rs, recOk n sm x.1 x.2.1 x.2.2 = true) : (jTextB n t xss bs sm wk rs).data.toList = textL rs := by
  unfold jTextB
  rw [if_pos (validB hok h), linesR_list]
  rfl
theorem textL_count : ∀ rs : List (Int × Int × Int), (textL rs).count 10 = rs.length
  | [] => rfl
  | x :: r => by
    show (lineL x ++ 10 :: textL r).count 10 = _
    rw [List.count_append, List.count_eq_zero_of_not_mem (line_no x), List.count_cons_self, textL_count r]
    simp
theorem jText_size {n t : Int} {xss : List (List Int)} {bs sm wk : Int} {rs : List (Int × Int × Int)} (hok : serviceOk n t xss bs sm wk = true) (h2 : sm ≤ 8) (h4 : n ≤ 6) (h : ∀ x ∈ rs, recOk n sm x.1 x.2.1 x.2.2 = true) (hl : rs.length ≤ 14) : (jTextB n t xss bs sm wk rs).size ≤ 238 := by
  have e : (jTextB n t xss bs sm wk rs).size = (textL rs).length := by
    rw [← jText_list hok h]; rfl
  rw [e]
  refine Nat.le_trans (textL_len (fun x hx => ?_)) (by omega)
  obtain ⟨_, a, b, ha, hb, ha1, hb1⟩ := recOk_nat (h x hx) h2 h4
  have := recB_size (k := x.1) (s := x.2.1.toNat) (v := x.2.2.toNat) (by omega) (by omega)
  exact this
theorem read_whole {n t : Int} {xss : List (List Int)} {bs sm wk : Int} {rs : List (Int × Int × Int)} (hok : serviceOk n t xss bs sm wk = true) (h2 : sm ≤ 8) (h4 : n ≤ 6) (h : ∀ x ∈ rs, recOk n sm x.1 x.2.1 x.2.2 = true) (hl : rs.length ≤ 14) : jReadR n t xss bs sm wk (jTextB n t xss bs sm wk rs) = (rs, 0) := by
  have hz := jText_size hok h2 h4 h hl
  have e := jText_list hok h
  have hh := (read_torn hok h2 h4 h (textL rs).length (text := jTextB n t xss bs sm wk rs) (by rw [e, List.take_length]) (by omega)).1
  rw [hh, e, textL_count, List.take_length]

set_option maxHeartbeats 4000000 in
theorem SameDesk_same {vl vr ul ur : Value} {l r : List Int} (q : Int) (w : World) (ha : SlI w vl l) (hb : SlI w vr r) (hc : SlI w ul l) (hd : SlI w ur r) :
    Calls Try.prog 76 #[.agg #[vl, vr, .int .i64 q], .agg #[ul, ur, .int .i64 q]] w fun e w' => e = .returned (.bool true) ∧ Below w.heap.size w w' := by
  have bx : Below w.heap.size w ((w.alloc (.cells #[vl, vr, .int .i64 q] 56)).alloc (.cells #[ul, ur, .int .i64 q] 56)) := ((Below.refl _ _).alloc (Nat.le_refl _) _).alloc (by simp) _
  have HA := Lib.hid (ha.below bx)
  have HC := Lib.hid (hc.below bx)
  have HB := Lib.hid (fun W (h : Below w.heap.size w W) => hb.below h)
  have HD := Lib.hid (fun W (h : Below w.heap.size w W) => hd.below h)
  obtain ⟨la, lc, rfl, _⟩ := ha
  obtain ⟨ra, rc, rfl, _⟩ := hb
  obtain ⟨ma, mc, rfl, _⟩ := hc
  obtain ⟨na, nc, rfl, _⟩ := hd
  go_enter Try.func76, Try.ntmps76
  go_wp2_with fail
  refine (l00Same_any _ HA.out HC.out).mono ?_
  rintro e w1 ⟨rfl, b1⟩
  rw [decide_eq_true (rfl : l = l)]
  have a1 := b1.cell (p := ⟨w.heap.size, 1, none⟩) (by simp <;> omega)
  have a2 := b1.cell (p := ⟨w.heap.size, 2, none⟩) (by simp <;> omega)
  have c1 := b1.cell (p := ⟨w.heap.size + 1, 1, none⟩) (by simp)
  have c2 := b1.cell (p := ⟨w.heap.size + 1, 2, none⟩) (by simp)
  simp [go_sem] at a1 a2 c1 c2
  have hb1 := bx.trans (b1.mono bx.size)
  have hz := b1.size
  simp at hz
  have z0 : w.heap.size < w1.heap.size := by omega
  have z1 : w.heap.size + 1 < w1.heap.size := by omega
  clear b1
  go_wp2_with fail
  refine (l00Same_any _ (HB.out _ hb1) (HD.out _ hb1)).mono ?_
  rintro e w2 ⟨rfl, b2⟩
  rw [decide_eq_true (rfl : r = r)]
  have d2 := b2.cell (p := ⟨w.heap.size, 2, none⟩) z0
  have e2 := b2.cell (p := ⟨w.heap.size + 1, 2, none⟩) z1
  rw [a2] at d2
  rw [c2] at e2
  clear a1 a2 c1 c2
  go_wp2
  go_ret
  exact ⟨rfl, hb1.trans (b2.mono hb1.size)⟩
end Go.Proofs.Ytijpkcdalmlaiaa
