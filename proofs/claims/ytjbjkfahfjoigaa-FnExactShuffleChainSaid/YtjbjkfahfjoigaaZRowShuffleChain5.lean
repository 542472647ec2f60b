/-
  Marks in chains, held; the bound on a shuffle's rows. With it: Shuffles of a deck: plain part. Rows of a shuffle's chain, step by step; small facts on decks and ways. Small words for laws whose arguments are []int64. Chains and services: counted, copied, compared. Which services are valid. Arguments of laws: boxed services. Marks written into what a law has handed in: what is made later, and what was there before, stays. Frames: what stays where some blocks alone are written; cells of a new block. Searches: plain laws. A search by impl.RunByDraws$1. A search by impl.deckIndex$1. Marks in rows, with what they leave; marks held in rows.
-/
import Derived.Test.YtjbjkfahfjoigaaZRowShuffleChain4
set_option linter.unusedVariables false
set_option linter.unusedSimpArgs false
namespace Go.Proofs.Ytjbjkfahfjoigaa
open Go.RowKit
def bitN (b p : Nat) : Nat := b / 2 ^ p % 2
theorem bitN_lt (b p : Nat) : bitN b p < 2 := by unfold bitN; omega
def onesN (b : Nat) : Nat → Nat
  | 0 => 0
  | k + 1 => onesN b k + bitN b k
def zerosN (b : Nat) : Nat → Nat
  | 0 => 0
  | k + 1 => zerosN b k + (1 - bitN b k)
theorem zo_sum (b : Nat) : ∀ k, zerosN b k + onesN b k = k
  | 0 => rfl
  | k + 1 => by
    have h1 := zo_sum b k
    have h2 := bitN_lt b k
    unfold zerosN onesN
    omega
theorem onesN_mono (b : Nat) {i : Nat} : ∀ {k : Nat}, i ≤ k → onesN b i ≤ onesN b k
  | 0, h => by rw [Nat.le_zero.1 h]; exact Nat.le_refl _
  | k + 1, h => by
    by_cases e : i = k + 1
    · subst e; exact Nat.le_refl _
    · have h1 := onesN_mono b (show i ≤ k by omega)
      have h2 : onesN b (k + 1) = onesN b k + bitN b k := rfl
      omega
def rifG (f : Nat → Int) (b h0 : Nat) : Nat → List Int
  | 0 => []
  | k + 1 => rifG f b h0 k ++ [if bitN b k = 0 then f (zerosN b k) else f (h0 + onesN b k)]
theorem rifG_len (f : Nat → Int) (b h0 : Nat) : ∀ k, (rifG f b h0 k).length = k
  | 0 => rfl
  | k + 1 => by unfold rifG; rw [List.length_append, rifG_len f b h0 k]; rfl
def swapL (d : List Int) (i k : Nat) : List Int := (d.set i (d.getD k 0)).set k (d.getD i 0)
theorem swapL_len (d : List Int) (i k : Nat) : (swapL d i k).length = d.length := by simp [swapL]
def deckF (d : List Int) (i : Nat) : Int := d.getD i 0
def rifD (d : List Int) (b : Nat) : List Int := rifG (deckF d) b (d.length - onesN b d.length) d.length
def topD (d : List Int) (p : Nat) : List Int := (d.drop 1).take p ++ d.getD 0 0 :: (d.drop 1).drop p
/-- what a shuffle leads to -/
def shufL (d : List Int) (kind : Nat) : List (List Int) :=
  if kind = 1 then (List.range d.length).map (topD d)
  else if kind = 2 then (List.range d.length).flatMap fun i => (List.range d.length).map fun k => swapL d i k
  else if kind = 3 then (List.range d.length).flatMap fun i => [d, swapL d i (min (i + 1) (d.length - 1))]
  else if kind = 4 then (List.range d.length).map fun k => d.drop k ++ d.take k
  else (List.range (2 ^ d.length)).map (rifD d)
def wayF (i : Nat) : Int := (i : Int)
def swapW (n a b : Nat) : List Int := ((upTo n).set a b).set b a
def waysL (n kind : Nat) : List (List Int) :=
  if kind = 1 then (List.range n).map fun to => ((List.range to).map fun k => ((k + 1 : Nat) : Int)) ++ (0 : Int) :: ((List.range (n - (to + 1))).map fun k => ((to + 1 + k : Nat) : Int))
  else if kind = 2 then (List.range n).flatMap fun a => (List.range n).map fun b => swapW n a b
  else if kind = 3 then (List.range n).flatMap fun a => [swapW n a a, swapW n a (min (a + 1) (n - 1))]
  else if kind = 4 then (List.range n).map fun a => (List.range n).map fun k => (((a + k) % n : Nat) : Int)
  else (List.range (2 ^ n)).map fun b => rifG wayF b (zerosN b n) n
/-- a deck by a way -/
def byW (d way : List Int) : List Int := way.map fun k => d.getD k.toNat 0
def rowOf (ds : List (List Int)) (nx : List (List Int)) (n : Nat) : List Int := nx.foldl (fun r x => r.set (findFrom ds x 0).toNat (r.getD (findFrom ds x 0).toNat 0 + 1)) (List.replicate n 0)
def shufW (n kind : Nat) : List (List Int) := (decksL n n).map fun d => rowOf (decksL n n) (shufL d kind) (decksL n n).length
def wayW (n kind : Nat) : List (List Int) := (decksL n n).map fun d => rowOf (decksL n n) ((waysL n kind).map (byW d)) (decksL n n).length
theorem shuf_dec : ∀ n, n < 3 → ∀ k, k < 5 → shufW (n + 1) (k + 1) = wayW (n + 1) (k + 1) ∧ (shufL ((decksL (n + 1) (n + 1)).getD 0 []) (k + 1)).length = (waysL (n + 1) (k + 1)).length := by
  decide
end Go.Proofs.Ytjbjkfahfjoigaa
namespace Go.Proofs.Ytjbjkfahfjoigaa
open Go.RowKit
def stepR (ds : List (List Int)) (r x : List Int) : List Int := r.set (findFrom ds x 0).toNat (r.getD (findFrom ds x 0).toNat 0 + 1)
def rowK (ds nx : List (List Int)) (D i : Nat) : List Int := (nx.take i).foldl (stepR ds) (List.replicate D 0)
theorem rowK_full (ds nx : List (List Int)) (D : Nat) : rowK ds nx D nx.length = rowOf ds nx D := by
  unfold rowK rowOf; rw [List.take_length]; rfl
theorem rowK_zero (ds nx : List (List Int)) (D : Nat) : rowK ds nx D 0 = List.replicate D 0 := by simp [rowK]
theorem rowK_succ {ds nx : List (List Int)} {D i : Nat} (h : i < nx.length) : rowK ds nx D (i + 1) = stepR ds (rowK ds nx D i) nx[i] := by
  unfold rowK
  rw [List.take_succ_eq_append_getElem h, List.foldl_append]; rfl
theorem stepR_len (ds : List (List Int)) (r x : List Int) : (stepR ds r x).length = r.length := by simp [stepR]
theorem rowK_len (ds nx : List (List Int)) (D : Nat) : ∀ i, i ≤ nx.length → (rowK ds nx D i).length = D
  | 0, _ => by rw [rowK_zero]; simp
  | i + 1, h => by rw [rowK_succ (show i < nx.length by omega), stepR_len]; exact rowK_len ds nx D i (by omega)
theorem rowK_bd (ds nx : List (List Int)) (D : Nat) : ∀ i, i ≤ nx.length → ∀ j, 0 ≤ (rowK ds nx D i).getD j 0 ∧ (rowK ds nx D i).getD j 0 ≤ i
  | 0, _, j => by
    rw [rowK_zero]
    by_cases h : j < D
    · simp [List.getD_eq_getElem?_getD, h]
    · simp [List.getD_eq_getElem?_getD, List.getElem?_eq_none (show (List.replicate D (0 : Int)).length ≤ j by simp; omega)]
  | i + 1, h, j => by
    have ih := rowK_bd ds nx D i (by omega)
    rw [rowK_succ (show i < nx.length by omega)]
    generalize rowK ds nx D i = r at ih
    unfold stepR
    generalize (findFrom ds nx[i] 0).toNat = f
    have h1 := ih f
    have h2 := ih j
    rw [List.getD_eq_getElem?_getD, List.getElem?_set]
    by_cases e : f = j
    · subst e
      rw [if_pos rfl]
      by_cases hl : f < r.length
      · rw [if_pos hl]
        show 0 ≤ r.getD f 0 + 1 ∧ r.getD f 0 + 1 ≤ ((i + 1 : Nat) : Int)
        omega
      · rw [if_neg hl]
        show (0 : Int) ≤ 0 ∧ (0 : Int) ≤ ((i + 1 : Nat) : Int)
        omega
    · rw [if_neg e, ← List.getD_eq_getElem?_getD]
      omega
def factW (n : Nat) (k : Nat) : Bool := (waysL n k).all fun y => decide (y.length = n) && (y.all fun x => decide (0 ≤ x) && decide (x < (n : Int))) && (decksL n n).all fun d => decide (findD (byW d y) = findFrom (decksL n n) (byW d y) 0) && decide (0 ≤ findD (byW d y)) && decide (findD (byW d y) < ((decksL n n).length : Int))
def factS (n : Nat) (k : Nat) : Bool := (decksL n n).all fun d => decide (d.length = n) && (shufL d k).all fun y => decide (y.length = n) && decide (0 ≤ findFrom (decksL n n) y 0) && decide (findFrom (decksL n n) y 0 < ((decksL n n).length : Int))
theorem fact_dec : ∀ n, n < 3 → ∀ k, k < 5 → factW (n + 1) (k + 1) = true ∧ factS (n + 1) (k + 1) = true ∧ (waysL (n + 1) (k + 1)).length ≤ 9 ∧ (decksL (n + 1) (n + 1)).length ≤ 6 ∧ 0 < (decksL (n + 1) (n + 1)).length ∧ ∀ d ∈ decksL (n + 1) (n + 1), (shufL d (k + 1)).length ≤ 9 := by
  decide
/-- all that is wanted of a way -/
theorem way_fact {n k : Nat} (h1 : 1 ≤ n) (h3 : n ≤ 3) (k1 : 1 ≤ k) (k5 : k ≤ 5) : (waysL n k).length ≤ 9 ∧ (decksL n n).length ≤ 6 ∧ 0 < (decksL n n).length ∧ (∀ d ∈ decksL n n, d.length = n) ∧
    ∀ y ∈ waysL n k, y.length = n ∧ (∀ x ∈ y, 0 ≤ x ∧ x < (n : Int)) ∧ ∀ d ∈ decksL n n, findD (byW d y) = findFrom (decksL n n) (byW d y) 0 ∧ 0 ≤ findD (byW d y) ∧ findD (byW d y) < ((decksL n n).length : Int) := by
  obtain ⟨m, rfl⟩ : ∃ m, n = m + 1 := ⟨n - 1, by omega⟩
  obtain ⟨q, rfl⟩ : ∃ q, k = q + 1 := ⟨k - 1, by omega⟩
  obtain ⟨f1, f2, f3, f4, f5, _⟩ := fact_dec m (by omega) q (by omega)
  unfold factW at f1
  unfold factS at f2
  simp only [List.all_eq_true, Bool.and_eq_true, decide_eq_true_eq] at f1 f2
  exact ⟨f3, f4, f5, fun d hd => (f2 d hd).1, fun y hy => ⟨(f1 y hy).1.1, (f1 y hy).1.2, fun d hd => ⟨((f1 y hy).2 d hd).1.1, ((f1 y hy).2 d hd).1.2, ((f1 y hy).2 d hd).2⟩⟩⟩
theorem shuf_fact {n k : Nat} (h1 : 1 ≤ n) (h3 : n ≤ 3) (k1 : 1 ≤ k) (k5 : k ≤ 5) : ∀ d ∈ decksL n n, d.length = n ∧ (shufL d k).length ≤ 9 ∧ ∀ y ∈ shufL d k, y.length = n ∧ 0 ≤ findFrom (decksL n n) y 0 ∧ findFrom (decksL n n) y 0 < ((decksL n n).length : Int) := by
  obtain ⟨m, rfl⟩ : ∃ m, n = m + 1 := ⟨n - 1, by omega⟩
  obtain ⟨q, rfl⟩ : ∃ q, k = q + 1 := ⟨k - 1, by omega⟩
  obtain ⟨_, f2, _, _, _, f6⟩ := fact_dec m (by omega) q (by omega)
  unfold factS at f2
  simp only [List.all_eq_true, Bool.and_eq_true, decide_eq_true_eq] at f2
  exact fun d hd => ⟨(f2 d hd).1, f6 d hd, fun y hy => ⟨((f2 d hd).2 y hy).1.1, ((f2 d hd).2 y hy).1.2, ((f2 d hd).2 y hy).2⟩⟩
theorem shuf_eq {n k : Nat} (h1 : 1 ≤ n) (h3 : n ≤ 3) (k1 : 1 ≤ k) (k5 : k ≤ 5) : shufW n k = wayW n k ∧ (shufL ((decksL n n).getD 0 []) k).length = (waysL n k).length := by
  obtain ⟨m, rfl⟩ : ∃ m, n = m + 1 := ⟨n - 1, by omega⟩
  obtain ⟨q, rfl⟩ : ∃ q, k = q + 1 := ⟨k - 1, by omega⟩
  exact shuf_dec m (by omega) q (by omega)
/-- what both answer: the number of decks, the number of ways, the rows; and the code -/
def shufR (cards kind : Int) : (Int × Int × List (List Int)) × Int :=
  if (inR cards 1 3 && inR kind 1 5) = true then ((((decksL cards.toNat cards.toNat).length : Int), ((waysL cards.toNat kind.toNat).length : Int), wayW cards.toNat kind.toNat), 0) else ((0, 0, []), 2)
end Go.Proofs.Ytjbjkfahfjoigaa
namespace Go.Proofs.Ytjbjkfahfjoigaa
open Go.RowKit
theorem eqInt64S_refl {u v : Value} {xs : List Int} (w : World) (ha : SlI w u xs) (hb : SlI w v xs) :
    Calls Try.prog 53 #[u, v] w fun e w' => e = .returned (.bool true) ∧ Below w.heap.size w w' :=
  (eqInt64S_any w ha hb).mono fun e w' ⟨h, hb⟩ => ⟨by rw [h]; simp, hb⟩
theorem eqInt64SS_refl {u v : Value} {xs : List (List Int)} (w : World) (ha : SlII w u xs) (hb : SlII w v xs) :
    Calls Try.prog 23 #[u, v] w fun e w' => e = .returned (.bool true) ∧ Below w.heap.size w w' :=
  (eqInt64SS_any w ha hb).mono fun e w' ⟨h, hb⟩ => ⟨by rw [h]; simp, hb⟩
end Go.Proofs.Ytjbjkfahfjoigaa
namespace Go.Proofs.Ytjbjkfahfjoigaa
open Go.RowKit Go.Sort
def chSame (s t : Int) (xss : List (List Int)) (s' t' : Int) (yss : List (List Int)) : Bool := decide (s = s') && (decide (t = t') && decide (xss = yss))
set_option maxHeartbeats 400000 in
theorem eqChain_any {u v : Value} {xss yss : List (List Int)} (s t s' t' : Int) (w : World) (ha : SlII w u xss) (hb : SlII w v yss) :
    Calls Try.prog 7 #[.agg #[.int .i64 s, .int .i64 t, u], .agg #[.int .i64 s', .int .i64 t', v]] w fun e w' => e = .returned (.bool (chSame s t xss s' t' yss)) ∧ Below w.heap.size w w' := by
  obtain ⟨a, ca, h1⟩ := id ha
  obtain ⟨b, cb, h2⟩ := id hb
  obtain ⟨us, rfl, _⟩ := h1
  obtain ⟨vs, rfl, _⟩ := h2
  have HA := Lib.hid ha
  have HB := Lib.hid hb
  clear ha hb
  have bb := ((Below.refl w.heap.size w).alloc (Nat.le_refl _) (.cells #[.int .i64 s, .int .i64 t, .slice a xss.length ca] 24)).alloc (by simp) (.cells #[.int .i64 s', .int .i64 t', .slice b yss.length cb] 24)
  by_cases hn : s = s'
  · subst hn
    have ht : (s != s) = false := by simp
    by_cases hm : t = t'
    · subst hm
      have ht2 : (t != t) = false := by simp
      go_enter Try.func7, Try.ntmps7
      go_wp2_with fail
      refine (eqInt64SS_any _ (HA.out.below bb) (HB.out.below bb)).mono ?_
      rintro e w1 ⟨rfl, b1⟩
      generalize hd : decide (xss = yss) = d
      have HD := Lib.hid hd
      clear hd
      cases d
      · go_wp2
        go_ret
        exact ⟨rb (by unfold chSame; rw [HD.out]; simp), bb.trans (b1.mono (by simp <;> omega))⟩
      · go_wp2
        go_ret
        exact ⟨rb (by unfold chSame; rw [HD.out]; simp), bb.trans (b1.mono (by simp <;> omega))⟩
    · have ht2 : (t != t') = true := by simp [hm]
      have HM := Lib.hid hm
      clear hm
      go_enter Try.func7, Try.ntmps7
      go_wp2
      go_ret
      exact ⟨rb (by simp [chSame, HM.out]), bb⟩
  · have ht : (s != s') = true := by simp [hn]
    have HN := Lib.hid hn
    clear hn
    go_enter Try.func7, Try.ntmps7
    go_wp2
    go_ret
    exact ⟨rb (by simp [chSame, HN.out]), bb⟩

def serviceOk (s t : Int) (xss : List (List Int)) (bs sm wk : Int) : Bool := chainOk s t xss && (inR sm 1 8 && (inR wk 1 4 && inR bs 0 999999992))
end Go.Proofs.Ytjbjkfahfjoigaa
namespace Go.Proofs.Ytjbjkfahfjoigaa
open Go.RowKit Go.Sort
/-- six cells: a service -/
def ServAt (w : World) (b o : Nat) (s t : Int) (v : Value) (bs sm wk : Int) : Prop :=
  ChainAt w b o s t v ∧ w.cell? ⟨b, o + 3, none⟩ = some (.int .i64 bs) ∧ w.cell? ⟨b, o + 4, none⟩ = some (.int .i64 sm) ∧ w.cell? ⟨b, o + 5, none⟩ = some (.int .i64 wk)
theorem ServAt.below {w w' : World} {b o : Nat} {s t : Int} {v : Value} {bs sm wk : Int} (h : ServAt w b o s t v bs sm wk) (hb : Below w.heap.size w w') : ServAt w' b o s t v bs sm wk :=
  ⟨h.1.below hb, by rw [hb.cell (p := ⟨b, o + 3, none⟩) h.1.1]; exact h.2.1, by rw [hb.cell (p := ⟨b, o + 4, none⟩) h.1.1]; exact h.2.2.1, by rw [hb.cell (p := ⟨b, o + 5, none⟩) h.1.1]; exact h.2.2.2⟩
end Go.Proofs.Ytjbjkfahfjoigaa
namespace Go.Proofs.Ytjbjkfahfjoigaa
open Go.RowKit Go.Sort
theorem szII_ok {xss : List (List Int)} {l1 : Int} (h : szII 1048576 xss = l1) (hl : ¬ l1 < 0) : xss.length ≤ 1048576 ∧ ∀ r ∈ xss, r.length ≤ 1048576 := by
  have := szII_nonneg (l := 1048576) (xss := xss) (by rw [h]; omega)
  exact ⟨by omega, fun r hr => by have := this.2.2 r hr; omega⟩
end Go.Proofs.Ytjbjkfahfjoigaa
namespace Go.Proofs.Ytjbjkfahfjoigaa
open Go.RowKit Go.Sort
/-- all but blocks from lo to hi stays -/
structure Mid (lo hi : Nat) (w w' : World) : Prop where
  os : w'.os = w.os
  tape : w'.tape = w.tape
  output : w'.output = w.output
  size : w.heap.size ≤ w'.heap.size
  block : ∀ k, k < w.heap.size → (k < lo ∨ hi ≤ k) → w'.heap[k]? = w.heap[k]?
theorem Mid.refl (lo hi : Nat) (w : World) : Mid lo hi w w := ⟨rfl, rfl, rfl, Nat.le_refl _, fun _ _ _ => rfl⟩
theorem Mid.trans {lo hi : Nat} {a b c : World} (h : Mid lo hi a b) (k : Mid lo hi b c) : Mid lo hi a c :=
  ⟨k.os.trans h.os, k.tape.trans h.tape, k.output.trans h.output, Nat.le_trans h.size k.size, fun i hi' hx => (k.block i (Nat.lt_of_lt_of_le hi' h.size) hx).trans (h.block i hi' hx)⟩
theorem Mid.below {lo hi : Nat} {w w' : World} (h : Mid lo hi w w') (hlo : lo ≤ w.heap.size) : Below lo w w' := ⟨h.os, h.tape, h.output, h.size, fun k hk => h.block k (Nat.lt_of_lt_of_le hk hlo) (.inl hk)⟩
theorem Mid.of_below {lo hi : Nat} {w w' : World} (h : Below w.heap.size w w') : Mid lo hi w w' := ⟨h.os, h.tape, h.output, h.size, fun k hk _ => h.block k hk⟩
theorem Mid.of_grown {lo hi : Nat} {w w' : World} {row : Option Nat} (h : w.grownBy w' row) (hr : ∀ g, row = some g → lo ≤ g ∧ g < hi) : Mid lo hi w w' :=
  ⟨h.os, h.tape, h.output, h.size, fun k hk hx => h.block k hk (by
    intro e
    have := hr k e.symm
    omega)⟩
theorem ownsRow_mid {w w' : World} {lo hi base e size n : Nat} {v : Value} {xs : List Value} (h : w.ownsRow base e size v n xs) (hm : Mid lo hi w w') (hb : hi ≤ base) : w'.ownsRow base e size v n xs := by
  refine ⟨h.1, ?_⟩
  rcases h.2 with h2 | ⟨g, cap, cur, h1, h2, h3, h4⟩
  · exact .inl h2
  · refine .inr ⟨g, cap, cur, h1, h2, ?_, h4⟩
    rw [hm.block g (Array.getElem?_eq_some_iff.1 h3).1 (.inr (by omega))]; exact h3
def sumL (xss : List (List Int)) : Nat := (xss.map List.length).sum
theorem sumL_take {xss : List (List Int)} {k : Nat} (h : k < xss.length) : sumL (xss.take (k + 1)) = sumL (xss.take k) + xss[k].length := by
  unfold sumL; rw [List.take_succ_eq_append_getElem h, List.map_append, List.sum_append]; simp
theorem sumL_le (xss : List (List Int)) (k : Nat) : sumL (xss.take k) ≤ sumL xss := by
  unfold sumL
  conv => rhs; rw [← List.take_append_drop k xss]
  rw [List.map_append, List.sum_append]; omega
theorem szRows_sum : ∀ {xss : List (List Int)} {l : Int}, 0 ≤ szRows l xss → (sumL xss : Int) ≤ l
  | [], l, h => by simpa [sumL, szRows] using h
  | r :: rs, l, h => by
    unfold szRows at h
    by_cases h1 : sz1 l r.length < 0
    · rw [if_pos h1] at h; omega
    · rw [if_neg h1] at h
      have h2 := szRows_sum h
      have h5 : sz1 l r.length = l - r.length := by unfold sz1 at h1 ⊢; split <;> simp_all
      rw [h5] at h2
      have : sumL (r :: rs) = r.length + sumL rs := by simp [sumL]
      omega
theorem szII_sum {xss : List (List Int)} {l l1 : Int} (h : szII l xss = l1) (hl : ¬ l1 < 0) (hb : l ≤ 1048576) : sumL xss ≤ 1048576 := by
  unfold szII at h
  split at h
  · omega
  · have := szRows_sum (xss := xss) (l := l - xss.length) (by omega)
    omega
/-- rows whose blocks lie below B -/
def OwnIIB (w : World) (base B : Nat) (v : Value) (xss : List (List Int)) : Prop :=
  ∃ vs, w.ownsRow base 42 1 v xss.length vs ∧ Rows2 w base vs xss ∧ ∀ (i : Nat) (u : Value) (g : Nat), vs[i]? = some u → u.ownBlock = some g → g < B
theorem OwnII.b {w : World} {base : Nat} {v : Value} {xss : List (List Int)} (h : OwnII w base v xss) : OwnIIB w base w.heap.size v xss := by
  obtain ⟨vs, h1, h2⟩ := h
  exact ⟨vs, h1, h2, fun i u g hu hg => (h2.lt i u g hu hg).2⟩
theorem OwnIIB.below {w w' : World} {base B : Nat} {v : Value} {xss : List (List Int)} (h : OwnIIB w base B v xss) (hb : Below w.heap.size w w') : OwnIIB w' base B v xss := by
  obtain ⟨vs, h1, h2, h3⟩ := h
  exact ⟨vs, ownsRow_below h1 hb, h2.below hb, h3⟩
theorem OwnIIB.ii {w : World} {base B : Nat} {v : Value} {xss : List (List Int)} (h : OwnIIB w base B v xss) : OwnII w base v xss := by
  obtain ⟨vs, h1, h2, _⟩ := h
  exact ⟨vs, h1, h2⟩
theorem OwnIIB.sl {w : World} {base B : Nat} {v : Value} {xss : List (List Int)} (h : OwnIIB w base B v xss) : SlII w v xss := h.ii.sl
set_option maxHeartbeats 1000000 in
theorem markInt64SS_any {v : Value} {xss : List (List Int)} (m : Int) (base B : Nat) (w : World) (hm0 : 0 ≤ m) (hm : m + sumL xss ≤ 1000000000000) (ha : OwnIIB w base B v xss) :
    Calls Try.prog 24 #[v, .int .i64 m] w fun e w' => e = .returned (.int .i64 (m + sumL xss)) ∧ Mid base B w w' := by
  obtain ⟨vs, h1, h2, h3⟩ := ha
  obtain ⟨ad, c, rfl, hc1, hc2, _⟩ := ownsRow_rd h1
  unfold maxLen at hc2
  have HV := Lib.hid h2
  have HB := Lib.hid h3
  clear h2 h3
  go_enter Try.func24, Try.ntmps24
  go_wp2
  go_loopw [1, 5] (fun q i wr => ∃ (k : Nat) (Q : Int), k ≤ xss.length ∧ i = .int .i64 k ∧ q = .int .i64 Q ∧ Hid (Q = m + sumL (xss.take k)) ∧ 0 ≤ Q ∧ Q ≤ 1000000000000 ∧ wr.ownsRow base 42 1 (.slice ad xss.length c) xss.length vs ∧ Hid (∀ (i : Nat) (u : Value) (xs : List Int), k ≤ i → vs[i]? = some u → xss[i]? = some xs → OwnI wr base u xs) ∧ Mid base B w wr) (fun _ i _ => xss.length - (intOf i).toNat)
  case atStart => exact ⟨0, m, Nat.zero_le _, rfl, rfl, by simp [Hid, sumL], hm0, by omega, h1, (fun i u xs _ hu hx => HV.out.2.1 i u xs hu hx), Mid.refl _ _ _⟩
  case round =>
    clear h1
    obtain ⟨k, Q, hk, rfl, rfl, hQ, hQ0, hQ1, hown, hrows, hmid⟩ := hrel
    by_cases hlt : k < xss.length
    · have hvl : k < vs.length := by rw [HV.out.1]; exact hlt
      obtain ⟨ad', c', he, _, _, hrd⟩ := ownsRow_rd hown
      simp at he
      obtain ⟨rfl, rfl⟩ := he
      obtain ⟨b, off, rfl, hcell⟩ := hrd.one (List.getElem?_eq_getElem hvl)
      have hu := hrows.out k vs[k] xss[k] (Nat.le_refl _) (List.getElem?_eq_getElem hvl) (List.getElem?_eq_getElem hlt)
      have hle := sumL_le xss (k + 1)
      have hst := sumL_take hlt
      have i1 : (k : Int) < (xss.length : Int) := by omega
      have hbq : Q + xss[k].length ≤ 1000000000000 := by have := hQ.out; omega
      have HST := Lib.hid hst
      have hvk : vs[k]? = some vs[k] := List.getElem?_eq_getElem hvl
      generalize vs[k] = u at hcell hu hvk
      obtain ⟨ua, uc, rfl, _⟩ := id hu.sl
      have HVK := Lib.hid hvk
      clear hst hle hvk
      go_wp2_with fail
      refine (markInt64S_any Q base _ hQ0 hbq hu).mono ?_
      rintro e w2 ⟨rfl, o2, g2⟩
      have hrow : Mid base B wr w2 := Mid.of_grown g2 (fun g hg => ⟨(hu.lt g hg).1, HB.out k _ g HVK.out hg⟩)
      have own2 : w2.ownsRow base 42 1 (.slice (some ⟨b, off, none⟩) xss.length c) xss.length vs := World.ownsRow.kept hown g2 (by
        cases hb : (Value.slice (some ⟨b, off, none⟩) xss.length c).ownBlock with
        | none => exact .inl rfl
        | some g => exact .inr (fun e => hu.apart hown e.symm hb))
      have rows2 : Hid (∀ (i : Nat) (u : Value) (xs : List Int), k + 1 ≤ i → vs[i]? = some u → xss[i]? = some xs → OwnI w2 base u xs) := by
        intro i u' xs' hi hu' hx'
        have h5 := hrows.out i u' xs' (by omega) hu' hx'
        refine h5.kept g2 ?_
        cases hb : u'.ownBlock with
        | none => exact .inl rfl
        | some g => exact .inr (fun e => HV.out.2.2 i k u' _ g (by omega) hu' HVK.out hb e.symm)
      have hm2 := hmid.trans hrow
      clear hown hrows hu o2 g2 hmid
      go_wp2
      go_roundw
      case rel => exact ⟨k + 1, Q + xss[k].length, by omega, by go_num, rfl, by have := hQ.out; have := HST.out; unfold Hid; omega, by omega, by omega, own2, rows2, hm2⟩
      case measure => simp [intOf]; omega
    · obtain rfl : k = xss.length := by omega
      go_wp2
      go_ret
      exact ⟨ri (by rw [hQ.out, List.take_length]), hmid⟩

set_option maxHeartbeats 400000 in
theorem markChain_any {v : Value} {xss : List (List Int)} (s t m : Int) (base B : Nat) (w : World) (hm0 : 0 ≤ m) (hm : m + sumL xss ≤ 1000000000000) (ha : OwnIIB w base B v xss) :
    Calls Try.prog 8 #[.agg #[.int .i64 s, .int .i64 t, v], .int .i64 m] w fun e w' => e = .returned (.int .i64 (m + sumL xss)) ∧ Mid base B w w' := by
  obtain ⟨a, ca, us, rfl, _⟩ := id ha.ii.sl
  have bx : Below w.heap.size w (w.alloc (chObj s t (.slice a xss.length ca))) := chBelow w s t _
  have hb := ha.below bx
  clear ha
  go_enter Try.func8, Try.ntmps8
  go_wp2_with fail
  refine (markInt64SS_any m base B _ hm0 hm hb).mono ?_
  rintro e w2 ⟨rfl, m2⟩
  go_wp2
  go_ret
  exact ⟨rfl, (Mid.of_below bx).trans m2⟩
end Go.Proofs.Ytjbjkfahfjoigaa
namespace Go.Proofs.Ytjbjkfahfjoigaa
open Go.RowKit Go.Sort
/-- the first cells of a block -/
def CellsAt (w : World) (b : Nat) (vs : List Value) : Prop := b < w.heap.size ∧ ∀ i u, vs[i]? = some u → w.cell? ⟨b, i, none⟩ = some u
theorem CellsAt.new (w : World) (vs : List Value) (T : Nat) : CellsAt (w.alloc (.cells vs.toArray T)) w.heap.size vs := by
  refine ⟨by simp, fun i u h => ?_⟩
  simp [go_sem, h]
theorem CellsAt.new' (w : World) (vs : List Value) (T : Nat) {b : Nat} (hb : b = w.heap.size) : CellsAt (w.alloc (.cells vs.toArray T)) b vs := by
  subst hb; exact CellsAt.new w vs T
theorem CellsAt.below {w w' : World} {b : Nat} {vs : List Value} (h : CellsAt w b vs) (hb : Below w.heap.size w w') : CellsAt w' b vs :=
  ⟨Nat.lt_of_lt_of_le h.1 hb.size, fun i u hu => by rw [hb.cell (p := ⟨b, i, none⟩) h.1]; exact h.2 i u hu⟩
theorem CellsAt.get {w : World} {b : Nat} {vs : List Value} (h : CellsAt w b vs) (i : Nat) (u : Value) (hu : vs[i]? = some u) : w.cell? ⟨b, i, none⟩ = some u := h.2 i u hu
/-- all blocks but those of S stay -/
structure Fs (S : Nat → Prop) (w w' : World) : Prop where
  os : w'.os = w.os
  tape : w'.tape = w.tape
  output : w'.output = w.output
  size : w.heap.size ≤ w'.heap.size
  block : ∀ k, k < w.heap.size → ¬ S k → w'.heap[k]? = w.heap[k]?
theorem Fs.trans {S : Nat → Prop} {a b c : World} (h : Fs S a b) (k : Fs S b c) : Fs S a c :=
  ⟨k.os.trans h.os, k.tape.trans h.tape, k.output.trans h.output, Nat.le_trans h.size k.size, fun i hi hx => (k.block i (Nat.lt_of_lt_of_le hi h.size) hx).trans (h.block i hi hx)⟩
theorem Fs.of_below {S : Nat → Prop} {w w' : World} (h : Below w.heap.size w w') : Fs S w w' := ⟨h.os, h.tape, h.output, h.size, fun k hk _ => h.block k hk⟩
theorem Fs.below {S : Nat → Prop} {w w' : World} (h : Fs S w w') {B : Nat} (hB : B ≤ w.heap.size) (hS : ∀ k, S k → B ≤ k) : Below B w w' :=
  ⟨h.os, h.tape, h.output, h.size, fun k hk => h.block k (Nat.lt_of_lt_of_le hk hB) (fun hs => by have := hS k hs; omega)⟩
theorem Fs.of_mid {lo hi : Nat} {w w' : World} (h : Mid lo hi w w') : Fs (fun k => lo ≤ k ∧ k < hi) w w' := ⟨h.os, h.tape, h.output, h.size, fun k hk hx => h.block k hk (by omega)⟩
theorem Fs.of_grown {S : Nat → Prop} {w w' : World} {row : Option Nat} (h : w.grownBy w' row) (hr : ∀ g, row = some g → S g) : Fs S w w' :=
  ⟨h.os, h.tape, h.output, h.size, fun k hk hx => h.block k hk (fun e => hx (hr k e.symm))⟩
theorem Fs.cell {S : Nat → Prop} {w w' : World} (h : Fs S w w') {p : Addr} (hp : p.block < w.heap.size) (hn : ¬ S p.block) : w'.cell? p = w.cell? p :=
  World.cell?_of_block (h.block p.block hp hn)
theorem Fs.mono {S T : Nat → Prop} {w w' : World} (h : Fs S w w') (hST : ∀ k, S k → T k) : Fs T w w' :=
  ⟨h.os, h.tape, h.output, h.size, fun k hk hx => h.block k hk (fun hs => hx (hST k hs))⟩
theorem CellsAt.fs {S : Nat → Prop} {w w' : World} {b : Nat} {vs : List Value} (h : CellsAt w b vs) (hf : Fs S w w') (hS : ¬ S b) : CellsAt w' b vs :=
  ⟨Nat.lt_of_lt_of_le h.1 hf.size, fun i u hu => by rw [hf.cell (p := ⟨b, i, none⟩) h.1 hS]; exact h.2 i u hu⟩
theorem ownsRow_fs {S : Nat → Prop} {w w' : World} {base e size n : Nat} {v : Value} {xs : List Value} (h : w.ownsRow base e size v n xs) (hf : Fs S w w') (hS : ∀ k, S k → k < base) : w'.ownsRow base e size v n xs := by
  refine ⟨h.1, ?_⟩
  rcases h.2 with h2 | ⟨g, cap, cur, h1, h2, h3, h4⟩
  · exact .inl h2
  · refine .inr ⟨g, cap, cur, h1, h2, ?_, h4⟩
    rw [hf.block g (Array.getElem?_eq_some_iff.1 h3).1 (fun hs => by have := hS g hs; omega)]; exact h3
theorem OwnI.fs {S : Nat → Prop} {w w' : World} {base : Nat} {v : Value} {xs : List Int} (h : OwnI w base v xs) (hf : Fs S w w') (hS : ∀ k, S k → k < base) : OwnI w' base v xs := ownsRow_fs h hf hS
theorem OwnII.fs {S : Nat → Prop} {w w' : World} {base : Nat} {v : Value} {xss : List (List Int)} (h : OwnII w base v xss) (hf : Fs S w w') (hS : ∀ k, S k → k < base) : OwnII w' base v xss := by
  obtain ⟨vs, h1, h2⟩ := h
  exact ⟨vs, ownsRow_fs h1 hf hS, h2.1, fun i u xs hu hx => ownsRow_fs (h2.2.1 i u xs hu hx) hf hS, h2.2.2⟩
end Go.Proofs.Ytjbjkfahfjoigaa
namespace Go.Proofs.Ytjbjkfahfjoigaa
open Go.RowKit Go.Sort
def ixP (p : Int → Bool) : List Int → Nat → Int
  | [], _ => -1
  | x :: r, k => if p x = true then (k : Int) else ixP p r (k + 1)
theorem ixP_any (p : Int → Bool) : ∀ (l : List Int) (k : Nat), decide (0 ≤ ixP p l k) = l.any p
  | [], k => by simp [ixP]
  | x :: r, k => by
    unfold ixP
    by_cases h : p x = true
    · rw [if_pos h]; simp [h]
    · rw [if_neg h, ixP_any p r (k + 1)]; simp [h]
theorem ixP_step {p : Int → Bool} {l : List Int} {k : Nat} (h : k < l.length) : ixP p (l.drop k) k = if p l[k] = true then (k : Int) else ixP p (l.drop (k + 1)) (k + 1) := by
  rw [List.drop_eq_getElem_cons h]; rfl
theorem ixP_bd (p : Int → Bool) : ∀ (l : List Int) (k : Nat), -1 ≤ ixP p l k ∧ ixP p l k < k + l.length
  | [], k => by simp [ixP]; omega
  | x :: r, k => by
    unfold ixP
    have := ixP_bd p r (k + 1)
    split
    · simp; omega
    · simp at this ⊢; omega

def ixRow (p : List Int → Bool) : List (List Int) → Nat → Int
  | [], _ => -1
  | x :: r, k => if p x = true then (k : Int) else ixRow p r (k + 1)
theorem ixRow_any (p : List Int → Bool) : ∀ (l : List (List Int)) (k : Nat), decide (0 ≤ ixRow p l k) = l.any p
  | [], k => by simp [ixRow]
  | x :: r, k => by
    unfold ixRow
    by_cases h : p x = true
    · rw [if_pos h]; simp [h]
    · rw [if_neg h, ixRow_any p r (k + 1)]; simp [h]
theorem ixRow_step {p : List Int → Bool} {l : List (List Int)} {k : Nat} (h : k < l.length) : ixRow p (l.drop k) k = if p l[k] = true then (k : Int) else ixRow p (l.drop (k + 1)) (k + 1) := by
  rw [List.drop_eq_getElem_cons h]; rfl
theorem ixRow_bd (p : List Int → Bool) : ∀ (l : List (List Int)) (k : Nat), -1 ≤ ixRow p l k ∧ ixRow p l k < k + l.length
  | [], k => by simp [ixRow]; omega
  | x :: r, k => by
    unfold ixRow
    have := ixRow_bd p r (k + 1)
    split
    · simp; omega
    · simp at this ⊢; omega
end Go.Proofs.Ytjbjkfahfjoigaa
namespace Go.Proofs.Ytjbjkfahfjoigaa
open Go.RowKit Go.Sort
end Go.Proofs.Ytjbjkfahfjoigaa
namespace Go.Proofs.Ytjbjkfahfjoigaa
open Go.RowKit Go.Sort
set_option maxHeartbeats 1000000 in
theorem IndexFuncDeck_any {u : Value} {xs : List (List Int)} (cap0 : Value) (p : List Int → Bool) (w : World) (ha : SlII w u xs)
    (hf : ∀ W x u, Below w.heap.size w W → x ∈ xs → SlI W u x → Calls Try.prog 51 #[u, cap0] W fun e w' => e = .returned (.bool (p x)) ∧ Below W.heap.size W w') :
    Calls Try.prog 50 #[u, .func (.func 51) #[] #[cap0]] w fun e w' => e = .returned (.int .i64 (ixRow p xs 0)) ∧ Below w.heap.size w w' := by
  obtain ⟨a, ca, us, rfl, hca, hca', hul, hrd, hrow⟩ := ha
  have HU := Lib.hid hul
  have HR := Lib.hid hrow
  clear hul hrow
  unfold maxLen at hca'
  have HF := Lib.hid hf
  clear hf
  go_enter Try.func50, Try.ntmps50
  go_wp2
  go_loopw [5, 8] (fun _ i wr => ∃ k : Nat, k ≤ xs.length ∧ i = .int .i64 k ∧ Hid (ixRow p xs 0 = ixRow p (xs.drop k) k) ∧ Below w.heap.size w wr) (fun _ i _ => xs.length - (intOf i).toNat)
  case atStart => exact ⟨0, Nat.zero_le _, rfl, rfl, Below.refl _ _⟩
  case round =>
    obtain ⟨k, hk, rfl, hno, hbw⟩ := hrel
    by_cases hlt : k < xs.length
    · obtain ⟨x, b, off, rfl, gc, sx⟩ := SlII.row HU.out (hrd.below hbw) (fun i hi u hu => (HR.out i hi u hu).below hbw) hlt
      obtain ⟨xa, xc, rfl, _⟩ := id sx
      have i1 : (k : Int) < (xs.length : Int) := by omega
      have hst := ixRow_step (p := p) hlt
      have HS := Lib.hid hst
      clear hst
      generalize hp : p xs[k] = P
      have HP := Lib.hid hp
      clear hp
      cases P
      · go_wp2_with fail
        refine (HF.out _ xs[k] _ hbw (List.getElem_mem hlt) sx).mono ?_
        rintro e w2 ⟨rfl, b2⟩
        rw [HP.out]
        have bq := hbw.trans (b2.mono hbw.size)
        go_wp2
        go_roundw
        case rel => exact ⟨k + 1, by omega, by go_num, by unfold Hid at *; rw [hno, HS, HP]; rfl, bq⟩
        case measure => simp [intOf]; omega
      · go_wp2_with fail
        refine (HF.out _ xs[k] _ hbw (List.getElem_mem hlt) sx).mono ?_
        rintro e w2 ⟨rfl, b2⟩
        rw [HP.out]
        have bq := hbw.trans (b2.mono hbw.size)
        go_wp2
        go_ret
        exact ⟨ri (by rw [hno.out, HS.out, HP.out]; rfl), bq⟩
    · obtain rfl : k = xs.length := by omega
      go_wp2
      go_ret
      exact ⟨ri (by rw [hno.out]; simp [ixRow]), hbw⟩
end Go.Proofs.Ytjbjkfahfjoigaa
namespace Go.Proofs.Ytjbjkfahfjoigaa
open Go.RowKit Go.Sort
def rampII : Int → List (List Int) → List (List Int)
  | _, [] => []
  | m, r :: rs => ramp m r.length :: rampII (m + r.length) rs
theorem rampII_len : ∀ (m : Int) (xss : List (List Int)), (rampII m xss).length = xss.length
  | _, [] => rfl
  | m, r :: rs => by simp [rampII, rampII_len _ rs]
theorem rampII_at : ∀ {m : Int} {xss : List (List Int)} {k : Nat} (h : k < xss.length), (rampII m xss)[k]? = some (ramp (m + sumL (xss.take k)) xss[k].length)
  | m, r :: rs, 0, _ => by simp [rampII, sumL]
  | m, r :: rs, k + 1, h => by
    have h' : k < rs.length := by simpa using h
    have e := rampII_at (m := m + r.length) h'
    simp only [rampII, List.getElem?_cons_succ, List.getElem_cons_succ, List.take_succ_cons]
    rw [e]
    have : sumL (r :: rs.take k) = r.length + sumL (rs.take k) := by simp [sumL]
    rw [this]
    simp only [Option.some.injEq]
    congr 1
    omega
def mixII (m : Int) (xss : List (List Int)) (k : Nat) : List (List Int) := (rampII m xss).take k ++ xss.drop k
theorem mixII_zero {m : Int} {xss : List (List Int)} : mixII m xss 0 = xss := by simp [mixII]
theorem mixII_all {m : Int} {xss : List (List Int)} : mixII m xss xss.length = rampII m xss := by
  unfold mixII
  rw [List.drop_length, List.append_nil, List.take_of_length_le (by rw [rampII_len]; exact Nat.le_refl _)]
theorem mixII_get {m : Int} {xss : List (List Int)} {k i : Nat} (hk : k ≤ xss.length) : (mixII m xss k)[i]? = if i < k then (rampII m xss)[i]? else xss[i]? := by
  unfold mixII
  have hl : ((rampII m xss).take k).length = k := by rw [List.length_take, rampII_len]; omega
  by_cases h : i < k
  · rw [List.getElem?_append_left (by omega), if_pos h, List.getElem?_take_of_lt h]
  · rw [List.getElem?_append_right (by omega), if_neg h, hl, List.getElem?_drop]
    congr 1
    omega
theorem mixII_at {m : Int} {xss : List (List Int)} {k : Nat} (h : k < xss.length) : (mixII m xss k)[k]? = some xss[k] := by
  rw [mixII_get (by omega), if_neg (by omega), List.getElem?_eq_getElem h]
theorem mixII_new {m : Int} {xss : List (List Int)} {k : Nat} (h : k < xss.length) : (mixII m xss (k + 1))[k]? = some (ramp (m + sumL (xss.take k)) xss[k].length) := by
  rw [mixII_get (by omega), if_pos (by omega), rampII_at h]
theorem mixII_old {m : Int} {xss : List (List Int)} {k i : Nat} (h : i ≠ k) : (mixII m xss (k + 1))[i]? = (mixII m xss k)[i]? := by
  by_cases hk : k < xss.length
  · rw [mixII_get (by omega), mixII_get (by omega)]
    by_cases h1 : i < k
    · rw [if_pos h1, if_pos (by omega)]
    · rw [if_neg h1, if_neg (by omega)]
  · unfold mixII
    rw [List.drop_of_length_le (by omega), List.drop_of_length_le (by omega), List.take_of_length_le (by rw [rampII_len]; omega), List.take_of_length_le (by rw [rampII_len]; omega)]
set_option maxHeartbeats 1000000 in
theorem markInt64SS_held {v : Value} {xss : List (List Int)} (m : Int) (base B : Nat) (w : World) (hm0 : 0 ≤ m) (hm : m + sumL xss ≤ 1000000000000) (ha : OwnIIB w base B v xss) :
    Calls Try.prog 24 #[v, .int .i64 m] w fun e w' => e = .returned (.int .i64 (m + sumL xss)) ∧ OwnIIB w' base B v (rampII m xss) ∧ Mid base B w w' := by
  obtain ⟨vs, h1, h2, h3⟩ := ha
  obtain ⟨ad, c, rfl, hc1, hc2, _⟩ := ownsRow_rd h1
  unfold maxLen at hc2
  have HV := Lib.hid h2
  have HB := Lib.hid h3
  clear h2 h3
  go_enter Try.func24, Try.ntmps24
  go_wp2
  go_loopw [1, 5] (fun q i wr => ∃ (k : Nat) (Q : Int), k ≤ xss.length ∧ i = .int .i64 k ∧ q = .int .i64 Q ∧ Hid (Q = m + sumL (xss.take k)) ∧ 0 ≤ Q ∧ Q ≤ 1000000000000 ∧ wr.ownsRow base 42 1 (.slice ad xss.length c) xss.length vs ∧ Hid (∀ (i : Nat) (u : Value) (xs : List Int), vs[i]? = some u → (mixII m xss k)[i]? = some xs → OwnI wr base u xs) ∧ Mid base B w wr) (fun _ i _ => xss.length - (intOf i).toNat)
  case atStart => exact ⟨0, m, Nat.zero_le _, rfl, rfl, by simp [Hid, sumL], hm0, by omega, h1, Lib.hid (fun i u xs hu hx => HV.out.2.1 i u xs hu (by rw [mixII_zero] at hx; exact hx)), Mid.refl _ _ _⟩
  case round =>
    clear h1
    obtain ⟨k, Q, hk, rfl, rfl, hQ, hQ0, hQ1, hown, hrows, hmid⟩ := hrel
    by_cases hlt : k < xss.length
    · have hvl : k < vs.length := by rw [HV.out.1]; exact hlt
      obtain ⟨ad', c', he, _, _, hrd⟩ := ownsRow_rd hown
      simp at he
      obtain ⟨rfl, rfl⟩ := he
      obtain ⟨b, off, rfl, hcell⟩ := hrd.one (List.getElem?_eq_getElem hvl)
      have hu := hrows.out k vs[k] xss[k] (List.getElem?_eq_getElem hvl) (mixII_at hlt)
      have hle := sumL_le xss (k + 1)
      have hst := sumL_take hlt
      have i1 : (k : Int) < (xss.length : Int) := by omega
      have hbq : Q + xss[k].length ≤ 1000000000000 := by have := hQ.out; omega
      have HST := Lib.hid hst
      have hvk : vs[k]? = some vs[k] := List.getElem?_eq_getElem hvl
      generalize vs[k] = u at hcell hu hvk
      obtain ⟨ua, uc, rfl, _⟩ := id hu.sl
      have HVK := Lib.hid hvk
      clear hst hle hvk
      go_wp2_with fail
      refine (markInt64S_any Q base _ hQ0 hbq hu).mono ?_
      rintro e w2 ⟨rfl, o2, g2⟩
      have hrow : Mid base B wr w2 := Mid.of_grown g2 (fun g hg => ⟨(hu.lt g hg).1, HB.out k _ g HVK.out hg⟩)
      have own2 : w2.ownsRow base 42 1 (.slice (some ⟨b, off, none⟩) xss.length c) xss.length vs := World.ownsRow.kept hown g2 (by
        cases hb : (Value.slice (some ⟨b, off, none⟩) xss.length c).ownBlock with
        | none => exact .inl rfl
        | some g => exact .inr (fun e => hu.apart hown e.symm hb))
      have rows2 : Hid (∀ (i : Nat) (u : Value) (xs : List Int), vs[i]? = some u → (mixII m xss (k + 1))[i]? = some xs → OwnI w2 base u xs) := by
        intro i u' xs' hu' hx'
        by_cases hik : i = k
        · subst hik
          rw [mixII_new hlt, ← hQ.out] at hx'
          have e1 := HVK.out
          rw [e1] at hu'
          cases hu'
          cases hx'
          exact o2
        · rw [mixII_old hik] at hx'
          have h5 := hrows.out i u' xs' hu' hx'
          refine h5.kept g2 ?_
          cases hb : u'.ownBlock with
          | none => exact .inl rfl
          | some g => exact .inr (fun e => HV.out.2.2 i k u' _ g hik hu' HVK.out hb e.symm)
      have hm2 := hmid.trans hrow
      clear hown hrows hu o2 g2 hmid
      go_wp2
      go_roundw
      case rel => exact ⟨k + 1, Q + xss[k].length, by omega, by go_num, rfl, by have := hQ.out; have := HST.out; unfold Hid; omega, by omega, by omega, own2, rows2, hm2⟩
      case measure => simp [intOf]; omega
    · obtain rfl : k = xss.length := by omega
      go_wp2
      go_ret
      exact ⟨ri (by rw [hQ.out, List.take_length]), ⟨vs, by rw [rampII_len]; exact hown, ⟨by rw [rampII_len]; exact HV.out.1, fun i u xs hu hx => hrows.out i u xs hu (by rw [mixII_all]; exact hx), HV.out.2.2⟩, HB.out⟩, hmid⟩
set_option maxHeartbeats 1000000 in
theorem heldInt64SS_any {v : Value} {xss : List (List Int)} (m : Int) (w : World) (hm0 : 0 ≤ m) (hm : m + sumL xss ≤ 1000000000000) (ha : SlII w v (rampII m xss)) :
    Calls Try.prog 25 #[v, .int .i64 m] w fun e w' => e = .returned (.int .i64 (m + sumL xss)) ∧ Below w.heap.size w w' := by
  have hlen := rampII_len m xss
  obtain ⟨a, ca, us, rfl, hca, hca', hul, hrd, hrow⟩ := ha
  unfold maxLen at hca'
  have HG := Lib.hid (fun W (h : Below w.heap.size w W) => And.intro (hrd.below h) (fun i hi u hu => (hrow i hi u hu).below h))
  have HU := Lib.hid hul
  rw [hlen] at hca ⊢
  have HLEN := Lib.hid hlen
  clear hrd hrow hul hlen
  go_enter Try.func25, Try.ntmps25
  go_wp2
  go_loopw [1, 5] (fun q i wr => ∃ (k : Nat) (Q : Int), k ≤ xss.length ∧ i = .int .i64 k ∧ q = .int .i64 Q ∧ Hid (Q = m + sumL (xss.take k)) ∧ 0 ≤ Q ∧ Below w.heap.size w wr) (fun _ i _ => xss.length - (intOf i).toNat)
  case atStart => exact ⟨0, m, Nat.zero_le _, rfl, rfl, by simp [Hid, sumL], hm0, Below.refl _ _⟩
  case round =>
    obtain ⟨k, Q, hk, rfl, rfl, hQ, hQ0, hbr⟩ := hrel
    by_cases hlt : k < xss.length
    · have hlt2 : k < (rampII m xss).length := by rw [HLEN.out]; exact hlt
      obtain ⟨x, b, off, rfl, gc, sx⟩ := SlII.row HU.out (HG.out _ hbr).1 (HG.out _ hbr).2 hlt2
      have hrk : (rampII m xss)[k] = ramp Q xss[k].length := by
        have := rampII_at (m := m) hlt
        rw [List.getElem?_eq_getElem hlt2, Option.some.injEq] at this
        rw [this, hQ.out]
      rw [hrk] at sx
      have hle := sumL_le xss (k + 1)
      have hst := sumL_take hlt
      have i1 : (k : Int) < (xss.length : Int) := by omega
      have hbq : Q + xss[k].length ≤ 1000000000000 := by have := hQ.out; omega
      have hq0 : ¬ Q + xss[k].length < 0 := by omega
      have HST := Lib.hid hst
      obtain ⟨ua, uc, rfl, _⟩ := id sx
      clear hst hle hrk
      go_wp2_with fail
      refine (heldInt64S_any Q xss[k].length _ hQ0 hbq sx).mono ?_
      rintro e w2 ⟨rfl, b2⟩
      have hb2 := hbr.trans (b2.mono hbr.size)
      clear b2 sx gc
      go_wp2
      go_roundw
      case rel => exact ⟨k + 1, Q + xss[k].length, by omega, by go_num, rfl, by have := hQ.out; have := HST.out; unfold Hid; omega, by omega, hb2⟩
      case measure => simp [intOf]; omega
    · obtain rfl : k = xss.length := by omega
      go_wp2
      go_ret
      exact ⟨ri (by rw [hQ.out, List.take_length]), hbr⟩
theorem OwnIIB.fs {S : Nat → Prop} {w w' : World} {base B : Nat} {v : Value} {xss : List (List Int)} (h : OwnIIB w base B v xss) (hf : Fs S w w') (hS : ∀ k, S k → k < base) : OwnIIB w' base B v xss := by
  obtain ⟨vs, h1, h2, h3⟩ := h
  exact ⟨vs, ownsRow_fs h1 hf hS, ⟨h2.1, fun i u xs hu hx => ownsRow_fs (h2.2.1 i u xs hu hx) hf hS, h2.2.2⟩, h3⟩
end Go.Proofs.Ytjbjkfahfjoigaa
namespace Go.Proofs.Ytjbjkfahfjoigaa
open Go.RowKit Go.Sort
theorem eqChain_refl {u v : Value} {xss : List (List Int)} (n t : Int) (w : World) (ha : SlII w u xss) (hb : SlII w v xss) :
    Calls Try.prog 7 #[.agg #[.int .i64 n, .int .i64 t, u], .agg #[.int .i64 n, .int .i64 t, v]] w fun e w' => e = .returned (.bool true) ∧ Below w.heap.size w w' :=
  (eqChain_any n t n t w ha hb).mono fun e w' ⟨h, hb⟩ => ⟨by rw [h, show chSame n t xss n t xss = true by simp [chSame]], hb⟩
set_option maxHeartbeats 400000 in
theorem markChain_held {v : Value} {xss : List (List Int)} (n t m : Int) (base B : Nat) (w : World) (hm0 : 0 ≤ m) (hm : m + sumL xss ≤ 1000000000000) (ha : OwnIIB w base B v xss) :
    Calls Try.prog 8 #[.agg #[.int .i64 n, .int .i64 t, v], .int .i64 m] w fun e w' => e = .returned (.int .i64 (m + sumL xss)) ∧ OwnIIB w' base B v (rampII m xss) ∧ Mid base B w w' := by
  obtain ⟨a, ca, us, rfl, _⟩ := id ha.ii.sl
  have bx : Below w.heap.size w (w.alloc (.cells #[.int .i64 n, .int .i64 t, .slice a xss.length ca] 24)) := (Below.refl _ _).alloc (Nat.le_refl _) _
  have hb := ha.below bx
  clear ha
  go_enter Try.func8, Try.ntmps8
  go_wp2_with fail
  refine (markInt64SS_held m base B _ hm0 hm hb).mono ?_
  rintro e w2 ⟨rfl, o2, m2⟩
  have O2 := Lib.hid o2
  clear o2
  go_wp2
  go_ret
  exact ⟨rfl, O2.out, (Mid.of_below bx).trans m2⟩
set_option maxHeartbeats 400000 in
theorem heldChain_any {v : Value} {xss : List (List Int)} (n t m : Int) (w : World) (hm0 : 0 ≤ m) (hm : m + sumL xss ≤ 1000000000000) (ha : SlII w v (rampII m xss)) :
    Calls Try.prog 9 #[.agg #[.int .i64 n, .int .i64 t, v], .int .i64 m] w fun e w' => e = .returned (.int .i64 (m + sumL xss)) ∧ Below w.heap.size w w' := by
  obtain ⟨a, ca, us, rfl, _⟩ := id ha
  rw [rampII_len] at ha ⊢
  have bx : Below w.heap.size w (w.alloc (.cells #[.int .i64 n, .int .i64 t, .slice a xss.length ca] 24)) := (Below.refl _ _).alloc (Nat.le_refl _) _
  have HA := Lib.hid (ha.below bx)
  have hq0 : ¬ m + (sumL xss : Int) < 0 := by omega
  clear ha
  go_enter Try.func9, Try.ntmps9
  go_wp2_with fail
  refine (heldInt64SS_any m _ hm0 hm HA.out).mono ?_
  rintro e w2 ⟨rfl, b2⟩
  go_wp2
  go_ret
  exact ⟨rfl, bx.trans (b2.mono bx.size)⟩
theorem way_sum : ∀ n, n < 3 → ∀ k, k < 5 → sumL (wayW (n + 1) (k + 1)) ≤ 36 := by decide
theorem shufR_len (cards kind : Int) : sumL (shufR cards kind).1.2.2 ≤ 36 := by
  unfold shufR
  split
  · rename_i h
    rw [Bool.and_eq_true] at h
    obtain ⟨h1, h3⟩ := inR_iff.1 h.1
    obtain ⟨k1, k5⟩ := inR_iff.1 h.2
    obtain ⟨n, hn⟩ : ∃ n, cards.toNat = n + 1 := ⟨cards.toNat - 1, by omega⟩
    obtain ⟨k, hk⟩ : ∃ k, kind.toNat = k + 1 := ⟨kind.toNat - 1, by omega⟩
    rw [hn, hk]
    exact way_sum n (by omega) k (by omega)
  · show sumL [] ≤ 36
    decide
end Go.Proofs.Ytjbjkfahfjoigaa
