/-
  DeckAt and DeckNumber, both sides.
-/
import Derived.Test.YtbokklbbnaibdaaDecks
import Derived.Test.YtbokklbbnaibdaaSrDeck
import Derived.Test.YtbokklbbnaibdaaSameGraph
namespace Go.Proofs.Ytbokklbbnaibdaa
open Go.RowKit Go.Sort
theorem hasIndex_any (x n : Int) (w : World) (h0 : 0 ≤ n) (h1 : n ≤ 1000000000) :
    Calls Try.prog 55 #[.int .i64 x, .int .i64 n] w fun e w' => e = .returned (.bool (inR x 0 (n - 1))) ∧ w = w' := by
  go_enter Try.func55, Try.ntmps55
  go_wp2_with (go_at_call 53; refine (inRange_any _ _ _ _).mono ?_; rintro e w' ⟨rfl, rfl⟩)
  go_ret
  exact ⟨rfl, rfl⟩
theorem OwnII.rowAt {w : World} {base : Nat} {ad : Option Addr} {n c : Nat} {xss : List (List Int)} (h : OwnII w base (.slice ad n c) xss) {i : Nat} (hi : i < xss.length) :
    ∃ b off u, ad = some ⟨b, off, none⟩ ∧ w.cell? ⟨b, off + i, none⟩ = some u ∧ OwnI w base u xss[i] := by
  obtain ⟨vs, h1, h2⟩ := h
  obtain ⟨ad', c', he, _, _, hr⟩ := ownsRow_rd h1
  simp at he
  obtain ⟨rfl, _, rfl⟩ := he
  have hv : i < vs.length := by rw [h2.1]; exact hi
  obtain ⟨b, off, e1, e2⟩ := hr.one (List.getElem?_eq_getElem hv)
  exact ⟨b, off, vs[i], e1, e2, h2.2.1 i _ _ (List.getElem?_eq_getElem hv) (List.getElem?_eq_getElem hi)⟩
def tupVC (v : Value) (c : Int) : Value := .tuple #[v, .int .i64 c]
def deckAtR (cards number : Int) : List Int × Int :=
  if inR cards 1 3 = true then (if inR number 0 ((decksL cards.toNat cards.toNat).length - 1) = true then ((decksL cards.toNat cards.toNat).getD number.toNat [], 0) else ([], 2)) else ([], 2)
/-- a fresh []int64 and a code -/
def FreshIC (w : World) (R : List Int × Int) (e : Ending) (w' : World) : Prop := ∃ v, e = .returned (tupVC v R.2) ∧ OwnI w' w.heap.size v R.1 ∧ Below w.heap.size w w'
theorem deckAtR_len (a b : Int) : (deckAtR a b).1.length ≤ 3 := by
  unfold deckAtR
  split
  · rename_i h
    split
    · have h1 := inR_iff.1 h
      obtain ⟨n, rfl⟩ := Int.eq_ofNat_of_zero_le (show 0 ≤ a by omega)
      have := (decks_small (c := n) (k := n) (by omega) (by omega) (Nat.le_refl _)).2
      rw [Int.toNat_natCast]
      dsimp only
      by_cases hb : b.toNat < (decksL n n).length
      · rw [List.getD_eq_getElem?_getD, List.getElem?_eq_getElem hb]
        have := this _ (List.getElem_mem hb)
        simp; omega
      · rw [List.getD_eq_getElem?_getD, List.getElem?_eq_none (by omega)]; simp
    · simp
  · simp
set_option maxHeartbeats 1000000 in
theorem ImplDeckAt_any (a b : Int) (w : World) : Calls Try.prog 16 #[.int .i64 a, .int .i64 b] w (FreshIC w (deckAtR a b)) := by
  generalize hq : inR a 1 3 = q
  have HQ := Lib.hid hq
  cases q
  · clear hq
    go_enter Try.func16, Try.ntmps16
    go_wp2_with (go_at_call 53; refine (inRange_any _ _ _ _).mono ?_; rintro e w' ⟨rfl, rfl⟩; rw [HQ.out])
    go_ret2
    refine ⟨.slice none 0 0, ?_, ?_, Below.refl _ _⟩
    · unfold deckAtR; rw [HQ.out]; rfl
    · unfold deckAtR; rw [HQ.out]; exact OwnI.nil _ _
  · have h1 := inR_iff.1 hq
    obtain ⟨n, rfl⟩ := Int.eq_ofNat_of_zero_le (show 0 ≤ a by omega)
    have hds := (decks_small (c := n) (k := n) (by omega) (by omega) (Nat.le_refl _)).1
    have hR : deckAtR n b = if inR b 0 ((decksL n n).length - 1) = true then ((decksL n n).getD b.toNat [], 0) else ([], 2) := by unfold deckAtR; rw [HQ.out, if_pos rfl, Int.toNat_natCast]
    obtain ⟨D, hD⟩ : ∃ D, D = decksL n n := ⟨_, rfl⟩
    rw [← hD] at hds hR
    have HD := Lib.hid hD
    generalize hp : inR b 0 (D.length - 1) = p at hR
    have HP := Lib.hid hp
    have HR := Lib.hid hR
    clear hD hq hR hp
    go_enter Try.func16, Try.ntmps16
    go_wp2_with (first
      | (go_at_call 53; refine (inRange_any _ _ _ _).mono ?_; rintro e w' ⟨rfl, rfl⟩; rw [HQ.out])
      | (go_at_call 54; refine (decks_any n _ (by omega) (by omega)).mono ?_; rintro e w1 ⟨v1, rfl, o1, b1⟩; rw [← HD.out] at o1; obtain ⟨va, vn, vc, rfl, hvn⟩ := o1.form; rw [hvn.out] at o1 ⊢))
    refine (hasIndex_any _ _ _ (by omega) (by omega)).mono ?_
    rintro e w' ⟨rfl, rfl⟩
    rw [HP.out]
    cases p
    · go_wp2
      go_ret2
      refine ⟨.slice none 0 0, ?_, ?_, b1⟩
      · rw [HR.out]; rfl
      · rw [HR.out]; exact OwnI.nil _ _
    · have hb := inR_iff.1 HP.out
      obtain ⟨m, rfl⟩ := Int.eq_ofNat_of_zero_le (show 0 ≤ b by omega)
      have hm : m < D.length := by omega
      obtain ⟨bb, off, u, rfl, hc, ou⟩ := o1.rowAt hm
      obtain ⟨ua, un, uc, rfl, hun⟩ := ou.form
      have i1 : (m : Int) < (D.length : Int) := by omega
      have OU := Lib.hid ou
      clear hb ou o1
      go_wp2
      go_ret2
      have hR2 := HR.out
      simp only [eq_self, if_true, Int.toNat_natCast, List.getD_eq_getElem?_getD, List.getElem?_eq_getElem hm, Option.getD_some] at hR2
      rw [hR2]
      exact ⟨_, rfl, OU.out, b1⟩
set_option maxHeartbeats 1000000 in
theorem SpecDeckAt_any (a b : Int) (w : World) : Calls Try.prog 15 #[.int .i64 a, .int .i64 b] w (FreshIC w (deckAtR a b)) := by
  generalize hq : inR a 1 3 = q
  have HQ := Lib.hid hq
  have e0 := Lib.hid (fun W : World => OwnI.empty W (base := W.heap.size) (Nat.le_refl _))
  cases q
  · clear hq
    go_enter Try.func15, Try.ntmps15
    go_wp2_with (go_at_call 51; refine (l00In_any _ _ _ _).mono ?_; rintro e w' ⟨rfl, rfl⟩; rw [HQ.out])
    go_ret2
    have hR : deckAtR a b = ([], 2) := by unfold deckAtR; rw [HQ.out]; rfl
    rw [hR]
    exact ⟨_, rfl, e0.out _, (Below.refl _ _).alloc (Nat.le_refl _) _⟩
  · have h1 := inR_iff.1 hq
    obtain ⟨n, rfl⟩ := Int.eq_ofNat_of_zero_le (show 0 ≤ a by omega)
    have hds := (decks_small (c := n) (k := n) (by omega) (by omega) (Nat.le_refl _)).1
    have hR : deckAtR n b = if inR b 0 ((decksL n n).length - 1) = true then ((decksL n n).getD b.toNat [], 0) else ([], 2) := by unfold deckAtR; rw [HQ.out, if_pos rfl, Int.toNat_natCast]
    obtain ⟨D, hD⟩ : ∃ D, D = decksL n n := ⟨_, rfl⟩
    rw [← hD] at hds hR
    have HD := Lib.hid hD
    generalize hp : inR b 0 (D.length - 1) = p at hR
    have HP := Lib.hid hp
    have HR := Lib.hid hR
    clear hD hq hR hp
    go_enter Try.func15, Try.ntmps15
    go_wp2_with (first
      | (go_at_call_of 51 (Value.int IntKind.i64 3); refine (l00In_any n 1 3 _).mono ?_; rintro e w' ⟨rfl, rfl⟩; rw [HQ.out])
      | (go_at_call 52; refine (l07Decks_any n _ (by omega) (by omega)).mono ?_; rintro e w1 ⟨v1, rfl, o1, b1⟩; rw [← HD.out] at o1; obtain ⟨va, vn, vc, rfl, hvn⟩ := o1.form; rw [hvn.out] at o1 ⊢))
    refine (l00In_any b 0 ((D.length : Int) - 1) _).mono ?_
    rintro e w' ⟨rfl, rfl⟩
    rw [HP.out]
    cases p
    · go_wp2
      go_ret2
      rw [HR.out]
      exact ⟨_, rfl, (e0.out _).lower b1.size, b1.alloc b1.size _⟩
    · have hb := inR_iff.1 HP.out
      obtain ⟨m, rfl⟩ := Int.eq_ofNat_of_zero_le (show 0 ≤ b by omega)
      have hm : m < D.length := by omega
      obtain ⟨bb, off, u, rfl, hc, ou⟩ := o1.rowAt hm
      obtain ⟨ua, un, uc, rfl, hun⟩ := ou.form
      have i1 : (m : Int) < (D.length : Int) := by omega
      have OU := Lib.hid ou
      clear hb ou o1
      go_wp2
      go_ret2
      have hR2 := HR.out
      simp only [eq_self, if_true, Int.toNat_natCast, List.getD_eq_getElem?_getD, List.getElem?_eq_getElem hm, Option.getD_some] at hR2
      rw [hR2]
      exact ⟨_, rfl, OU.out, b1⟩
theorem findFrom_ix (D : List (List Int)) (x : List Int) : ∀ k, ixRow (fun y => decide (x = y)) D k = findFrom D x k := by
  induction D with
  | nil => intro k; rfl
  | cons y r ih =>
    intro k
    unfold ixRow findFrom
    rw [ih (k + 1)]
    by_cases h : x = y
    · subst h; simp
    · have h2 : ¬ y = x := fun e => h e.symm
      simp [h, h2]
set_option maxHeartbeats 1000000 in
theorem deckIndex_any {u : Value} {xs : List Int} (w : World) (ha : SlI w u xs) (h1 : 1 ≤ xs.length) (h3 : xs.length ≤ 3) :
    Calls Try.prog 58 #[u] w fun e w' => e = .returned (.int .i64 (findFrom (decksL xs.length xs.length) xs 0)) ∧ Below w.heap.size w w' := by
  have hmf : ∀ (fn : Fn) (first cap : Array Value) (w : World), (Instr.makeFunc fn first cap).run Try.prog w = .ok (.func fn first cap) w := fun _ _ _ _ => rfl
  have HA := Lib.hid (fun W (h : Below w.heap.size w W) => ha.below h)
  have HX := Lib.hid (findFrom_ix (decksL xs.length xs.length) xs 0)
  obtain ⟨a, c, rfl, _⟩ := id ha
  have bx : Below w.heap.size w (w.alloc (.cells #[.slice a xs.length c] 22)) := (Below.refl _ _).alloc (Nat.le_refl _) _
  have hbd := ixRow_bd (fun y => decide (xs = y)) (decksL xs.length xs.length) 0
  have hsm := (decks_small h1 h3 (Nat.le_refl _)).1
  have X := Lib.hid (CellsAt.new w [.slice a xs.length c] 22)
  clear ha
  go_enter Try.func58, Try.ntmps58
  go_wp2_with fail
  refine (decks_any xs.length _ h1 h3).mono ?_
  rintro e w1 ⟨v, rfl, o1, b1⟩
  have hb1 := bx.trans (b1.mono bx.size)
  have X1 := Lib.hid (X.out.below b1)
  go_wp2_with fail
  refine (IndexFuncDeck_any _ (fun y => decide (xs = y)) _ o1.sl (fun W y u hW _ hu => ?_)).mono ?_
  · have c0 := (X1.out.below hW).get 0 _ rfl
    have hd := HA.out W (hb1.trans (hW.mono hb1.size))
    go_enter Try.func97, Try.ntmps97
    go_wp2_with fail
    refine (Equal_any _ hd hu).mono ?_
    rintro e w2 ⟨rfl, b2⟩
    go_wp2
    go_ret
    exact ⟨rfl, b2⟩
  · rintro e w2 ⟨rfl, b2⟩
    go_wp2
    go_ret
    exact ⟨ri HX.out, hb1.trans (b2.mono hb1.size)⟩
def deckNumR (x : List Int) : Int × Int := if findD x < 0 then (0, 2) else (findD x, 0)
set_option maxHeartbeats 1000000 in
theorem SpecDeckNumber_any {u : Value} {xs : List Int} (w : World) (ha : SlI w u xs) :
    Calls Try.prog 20 #[u] w fun e w' => e = .returned (tupII (deckNumR xs)) ∧ Below w.heap.size w w' := by
  obtain ⟨q, hq⟩ : ∃ q, q = findD xs := ⟨_, rfl⟩
  have hR : deckNumR xs = if q < 0 then (0, 2) else (q, 0) := by rw [hq]; rfl
  have HR := Lib.hid hR
  have HQ := Lib.hid hq
  obtain ⟨a, c, rfl, _⟩ := id ha
  clear hR hq
  by_cases h : q < 0
  · go_enter Try.func20, Try.ntmps20
    go_wp2_with (go_at_call 56; refine (l07Find_any _ ha).mono ?_; rintro e w' ⟨rfl, b1⟩; rw [← HQ.out])
    go_ret2
    rw [HR.out, if_pos h]
    exact ⟨rfl, b1⟩
  · go_enter Try.func20, Try.ntmps20
    go_wp2_with (go_at_call 56; refine (l07Find_any _ ha).mono ?_; rintro e w' ⟨rfl, b1⟩; rw [← HQ.out])
    go_ret2
    rw [HR.out, if_neg (by omega)]
    exact ⟨rfl, b1⟩
set_option maxHeartbeats 1000000 in
theorem ImplDeckNumber_any {u : Value} {xs : List Int} (w : World) (ha : SlI w u xs) :
    Calls Try.prog 22 #[u] w fun e w' => e = .returned (tupII (deckNumR xs)) ∧ Below w.heap.size w w' := by
  have hl := (deck_law xs).1
  generalize hv : isDeckB xs = V at hl
  have HV := Lib.hid hv
  have HA := Lib.hid (fun W (h : Below w.heap.size w W) => ha.below h)
  obtain ⟨a, c, rfl, _⟩ := id ha
  cases V
  · have hn : findD xs < 0 := by
      have : ¬ 0 ≤ findD xs := fun h => by have := hl.1 h; simp at this
      omega
    have hR : deckNumR xs = (0, 2) := by unfold deckNumR; rw [if_pos hn]
    have HR := Lib.hid hR
    clear hl hv hn hR
    go_enter Try.func22, Try.ntmps22
    go_wp2_with (go_at_call 57; refine (isDeck_any _ ha).mono ?_; rintro e w' ⟨rfl, b1⟩; rw [HV.out])
    go_ret2
    rw [HR.out]
    exact ⟨rfl, b1⟩
  · have hn : 0 ≤ findD xs := hl.2 rfl
    obtain ⟨h1, h3⟩ := findD_len hn
    have hf : findD xs = findFrom (decksL xs.length xs.length) xs 0 := by
      unfold findD
      rw [if_pos (inR_iff.2 ⟨by omega, by omega⟩)]
    have hR : deckNumR xs = (findFrom (decksL xs.length xs.length) xs 0, 0) := by unfold deckNumR; rw [if_neg (by omega), hf]
    have HR := Lib.hid hR
    clear hl hv hn hR hf
    go_enter Try.func22, Try.ntmps22
    go_wp2_with fail
    refine (isDeck_any _ ha).mono ?_
    rintro e w1 ⟨rfl, b1⟩
    rw [HV.out]
    go_wp2_with fail
    refine (deckIndex_any _ (HA.out _ b1) h1 h3).mono ?_
    rintro e w2 ⟨rfl, b2⟩
    go_wp2
    go_ret2
    rw [HR.out]
    exact ⟨rfl, b1.trans (b2.mono b1.size)⟩
end Go.Proofs.Ytbokklbbnaibdaa
