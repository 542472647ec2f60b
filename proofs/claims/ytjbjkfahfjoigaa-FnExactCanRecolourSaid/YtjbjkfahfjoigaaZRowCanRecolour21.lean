/-
  Steps between colourings: the plain part.
-/
import Derived.Test.YtjbjkfahfjoigaaZRowCanRecolour18
import Derived.Test.YtjbjkfahfjoigaaZRowCanRecolour11
import Derived.Test.YtjbjkfahfjoigaaZRowCanRecolour5
import Derived.Test.YtjbjkfahfjoigaaZRowCanRecolour14
import Derived.Test.YtjbjkfahfjoigaaZRowCanRecolour8
import Derived.Maps.Views
set_option linter.unusedVariables false
set_option linter.unusedSimpArgs false
namespace Go.Proofs.Ytjbjkfahfjoigaa
open Go.RowKit Go.Sort
/-! the search -/
def visit (L : List Nat) (k : Nat) : List Nat := if k ∈ L then L else L ++ [k]
def visAll (L : List Nat) (ts : List Nat) : List Nat := ts.foldl visit L
theorem visAll_add (L ts : List Nat) (k : Nat) : visAll L (ts ++ [k]) = visit (visAll L ts) k := by simp [visAll]
theorem visAll_app (L ts us : List Nat) : visAll L (ts ++ us) = visAll (visAll L ts) us := by simp [visAll]
def runL (T : Nat → List Nat) : Nat → Nat → List Nat → List Nat
  | 0, _, L => L
  | f + 1, q, L => if q < L.length then runL T f (q + 1) (visAll L (T (L.getD q 0))) else L
theorem runL_end (T : Nat → List Nat) {q : Nat} {L : List Nat} (h : ¬ q < L.length) : ∀ f, runL T f q L = L
  | 0 => rfl
  | f + 1 => by unfold runL; rw [if_neg h]
theorem runL_step (T : Nat → List Nat) {f q : Nat} {L : List Nat} (h : q < L.length) : runL T (f + 1) q L = runL T f (q + 1) (visAll L (T (L.getD q 0))) := by
  show (if q < L.length then _ else _) = _
  rw [if_pos h]
structure OkL (n : Nat) (L : List Nat) : Prop where
  nd : L.Nodup
  lt : ∀ x ∈ L, x < n
theorem OkL.len {n : Nat} {L : List Nat} (h : OkL n L) : L.length ≤ n := nodup_len h.nd h.lt
theorem OkL.new {n : Nat} {L : List Nat} (h : OkL n L) {k : Nat} (hk : k < n) (hm : k ∉ L) : OkL n (L ++ [k]) := by
  refine ⟨?_, ?_⟩
  · rw [List.nodup_append]
    refine ⟨h.nd, by simp, ?_⟩
    intro a ha b hb e
    simp at hb
    subst hb
    subst e
    exact hm ha
  · intro x hx
    simp at hx
    rcases hx with hx | rfl
    · exact h.lt x hx
    · exact hk
theorem OkL.one {n : Nat} (h : 0 < n) : OkL n [0] := ⟨by simp, by simp; exact h⟩
/-! the colourings -/
theorem extT_mem (q : Nat) : ∀ (f : Nat) (l x : List Int), x ∈ extT q f l ↔ ∃ y, x = l ++ y ∧ y.length = f ∧ ∀ c ∈ y, 0 ≤ c ∧ c < (q : Int)
  | 0, l, x => by
    unfold extT
    constructor
    · intro h; simp at h; exact ⟨[], by simp [h], rfl, by simp⟩
    · rintro ⟨y, rfl, hy, _⟩
      have : y = [] := List.length_eq_zero_iff.1 hy
      subst this; simp
  | f + 1, l, x => by
    unfold extT
    rw [List.mem_flatMap]
    constructor
    · rintro ⟨c, hc, hx⟩
      obtain ⟨y, rfl, hy, hyc⟩ := (extT_mem q f (l ++ [c]) x).1 hx
      refine ⟨c :: y, by simp, by simp [hy], ?_⟩
      intro d hd
      rcases List.mem_cons.1 hd with rfl | hd
      · unfold upTo at hc
        rw [List.mem_map] at hc
        obtain ⟨k, hk, rfl⟩ := hc
        rw [List.mem_range] at hk
        omega
      · exact hyc d hd
    · rintro ⟨y, rfl, hy, hyc⟩
      match y, hy with
      | c :: y, hy =>
        have h0 := hyc c (by simp)
        refine ⟨c, ?_, (extT_mem q f (l ++ [c]) _).2 ⟨y, by simp, by simpa using hy, fun d hd => hyc d (by simp [hd])⟩⟩
        unfold upTo
        rw [List.mem_map]
        exact ⟨c.toNat, by rw [List.mem_range]; omega, by omega⟩
theorem compF_free (m i : Nat) (l : List Int) (h : l.length ≤ m) : compF (List.replicate m (-1)) i l = true := by
  unfold compF
  rw [List.all_eq_true]
  intro j hj
  rw [List.mem_range] at hj
  unfold okP
  have : (List.replicate m (-1 : Int)).getD j 0 = -1 := by rw [List.getD_eq_getElem?_getD, List.getElem?_replicate, if_pos (by omega)]; rfl
  rw [this]; simp
def listC (q m : Nat) (es : List (List Int)) : List (List Int) := colD q (List.replicate m (-1)) es m []
theorem listC_mem {q m : Nat} {es : List (List Int)} {x : List Int} : x ∈ listC q m es ↔ (x.length = m ∧ (∀ c ∈ x, 0 ≤ c ∧ c < (q : Int))) ∧ properB es x = true := by
  unfold listC
  rw [colD_ext, List.mem_filter, extT_mem]
  constructor
  · rintro ⟨⟨y, rfl, hy, hc⟩, hp⟩
    rw [Bool.and_eq_true] at hp
    exact ⟨⟨by simpa using hy, by simpa using hc⟩, hp.2⟩
  · rintro ⟨⟨hl, hc⟩, hp⟩
    exact ⟨⟨x, by simp, hl, hc⟩, by rw [Bool.and_eq_true]; exact ⟨compF_free m _ x (by omega), hp⟩⟩
theorem digs_inj {q : Nat} : ∀ (j n n' : Nat), digs q j n = digs q j n' → n % q ^ j = n' % q ^ j
  | 0, n, n', _ => by rw [Nat.pow_zero, Nat.mod_one, Nat.mod_one]
  | j + 1, n, n', h => by
    unfold digs at h
    simp only [List.cons.injEq] at h
    have h1 : n / q ^ j % q = n' / q ^ j % q := by have := h.1; omega
    rw [Nat.mod_pow_succ, Nat.mod_pow_succ, h1, digs_inj j n n' h.2]
theorem listC_nodup {q m : Nat} (hq : 0 < q) (es : List (List Int)) : (listC q m es).Nodup := by
  unfold listC
  rw [colD_ext]
  refine List.Pairwise.filter _ ?_
  rw [extT_digs hq]
  rw [List.pairwise_map]
  refine List.Pairwise.imp_of_mem ?_ (List.nodup_range (n := q ^ m))
  intro a b ha hb hne e
  rw [List.mem_range] at ha hb
  have e2 : digs q m a = digs q m b := by simpa using e
  have := digs_inj m a b e2
  rw [Nat.mod_eq_of_lt ha, Nat.mod_eq_of_lt hb] at this
  exact hne this
theorem listC_set {q m : Nat} {es : List (List Int)} (hE : EdgesB m es) {x : List Int} (hx : x ∈ listC q m es) {node : Nat} (hn : node < m) {c : Int} (hc : c ∈ freeL es x node q) : x.set node c ∈ listC q m es := by
  obtain ⟨⟨hl, hd⟩, hp⟩ := listC_mem.1 hx
  unfold freeL at hc
  rw [List.mem_filter] at hc
  obtain ⟨hcu, hct⟩ := hc
  have hcr : 0 ≤ c ∧ c < (q : Int) := by
    unfold upTo at hcu
    rw [List.mem_map] at hcu
    obtain ⟨k, hk, rfl⟩ := hcu
    rw [List.mem_range] at hk
    omega
  refine listC_mem.2 ⟨⟨by simpa using hl, ?_⟩, ?_⟩
  · intro d hdm
    rcases List.mem_or_eq_of_mem_set hdm with h | rfl
    · exact hd d h
    · exact hcr
  · have ht : takenB es x node c = false := by simpa using hct
    have hnt : ∀ o ∈ neighL es node, x.getD o.toNat 0 ≠ c := by
      intro o ho e
      have : takenB es x node c = true := by
        unfold takenB
        rw [List.any_eq_true]
        exact ⟨o, ho, by simpa using e⟩
      rw [ht] at this; cases this
    unfold properB at hp ⊢
    rw [Bool.not_eq_true', List.any_eq_false] at hp ⊢
    intro e he
    obtain ⟨a, b, rfl, hab, hbm⟩ := hE e he
    have h0 := hp _ he
    simp only [List.getD_cons_zero, List.getD_cons_succ, Int.toNat_natCast, decide_eq_true_eq] at h0 ⊢
    have gs : ∀ j, (x.set node c).getD j 0 = if j = node then c else x.getD j 0 := by
      intro j
      rw [List.getD_eq_getElem?_getD, List.getElem?_set]
      by_cases e : node = j
      · subst e; simp [hl, hn]
      · rw [if_neg e, if_neg (fun h => e h.symm), List.getD_eq_getElem?_getD]
    rw [gs, gs]
    by_cases ea : a = node
    · subst ea
      rw [if_pos rfl, if_neg (by omega)]
      intro hcb
      refine hnt (b : Int) ?_ (by simpa using hcb.symm)
      unfold neighL
      rw [List.mem_flatMap]
      exact ⟨_, he, by unfold neighE; simp⟩
    · rw [if_neg ea]
      by_cases eb : b = node
      · subst eb
        rw [if_pos rfl]
        intro hca
        refine hnt (a : Int) ?_ (by simpa using hca)
        unfold neighL
        rw [List.mem_flatMap]
        refine ⟨_, he, ?_⟩
        unfold neighE
        rw [if_neg (by simp; omega), if_pos (by simp)]
        simp
      · rw [if_neg eb]; exact h0
/-- the place of a list among others -/
theorem findFrom_at : ∀ {D : List (List Int)} {x : List Int} {k : Nat}, x ∈ D → ∃ i, ∃ h : i < D.length, D[i] = x ∧ findFrom D x k = ((k + i : Nat) : Int)
  | [], _, _, h => by simp at h
  | d :: D, x, k, h => by
    by_cases e : d = x
    · exact ⟨0, by simp, by simpa using e, by unfold findFrom; rw [if_pos e]; simp⟩
    · rcases List.mem_cons.1 h with h | h
      · exact absurd h.symm e
      · obtain ⟨i, hi, h1, h2⟩ := findFrom_at (k := k + 1) h
        exact ⟨i + 1, by simp; omega, by simpa using h1, by unfold findFrom; rw [if_neg e, h2]; congr 1; omega⟩
def idxC (D : List (List Int)) (x : List Int) : Nat := (findFrom D x 0).toNat
theorem idxC_at {D : List (List Int)} {x : List Int} (h : x ∈ D) : ∃ hi : idxC D x < D.length, D[idxC D x] = x ∧ findFrom D x 0 = (idxC D x : Int) := by
  obtain ⟨i, hi, h1, h2⟩ := findFrom_at (k := 0) h
  have e : idxC D x = i := by unfold idxC; rw [h2]; simp
  refine ⟨by rw [e]; exact hi, ?_, by rw [e, h2]; simp⟩
  simp only [e]; exact h1
/-- where steps lead from a colouring by a node -/
def tgtC (D es : List (List Int)) (q : Nat) (x : List Int) (node : Nat) : List Nat := (freeL es x node q).map fun c => idxC D (x.set node c)
def tosC (D es : List (List Int)) (q m : Nat) (u : Nat) : List Nat := (List.range m).flatMap (tgtC D es q (D.getD u []))
theorem flatN_succ {α : Type} (f : Nat → List α) (k : Nat) : (List.range (k + 1)).flatMap f = (List.range k).flatMap f ++ f k := by rw [List.range_succ, List.flatMap_append]; simp
/-- what both answer -/
def canR (n : Int) (es : List (List Int)) (q : Int) : Bool × Int :=
  if askedC n es q true = 0 then
    if 260 < (listC q.toNat n.toNat es).length then (false, 3)
    else if (listC q.toNat n.toNat es).length = 0 then (true, 0)
    else (decide ((runL (tosC (listC q.toNat n.toNat es) es q.toNat n.toNat) (listC q.toNat n.toNat es).length 0 [0]).length = (listC q.toNat n.toNat es).length), 0)
  else (false, askedC n es q true)
/-! keys -/
theorem joinFrom_data (b : ByteArray) : ∀ (l : List ByteArray) (acc : ByteArray) (f : Bool), ∃ t : List UInt8, (joinFrom b acc f l).data.toList = acc.data.toList ++ t ∧ (∀ acc', (joinFrom b acc' f l).data.toList = acc'.data.toList ++ t)
  | [], acc, f => ⟨[], by simp [joinFrom], fun acc' => by simp [joinFrom]⟩
  | x :: r, acc, f => by
    obtain ⟨t, h1, h2⟩ := joinFrom_data b r ((if f = true then acc else acc ++ b) ++ x) false
    cases f
    · exact ⟨b.data.toList ++ x.data.toList ++ t, by unfold joinFrom; rw [h2]; simp, fun acc' => by unfold joinFrom; rw [h2]; simp⟩
    · exact ⟨x.data.toList ++ t, by unfold joinFrom; rw [h2]; simp, fun acc' => by unfold joinFrom; rw [h2]; simp⟩
theorem digit_inj {a b : Nat} (ha : a < 4) (hb : b < 4) (h : (decIB (a : Int)).data.toList = (decIB (b : Int)).data.toList) : a = b := by
  have hd : ∀ c : Nat, c < 4 → (decIB (c : Int)).data.toList = [dig c] := by
    intro c hc
    unfold decIB decI
    rw [if_neg (by omega)]
    unfold dec
    rw [if_pos (by omega)]
    simp
  rw [hd a ha, hd b hb] at h
  simp only [List.cons.injEq, and_true] at h
  unfold dig at h
  have h2 := congrArg UInt8.toNat h
  rw [UInt8.toNat_ofNat', UInt8.toNat_ofNat'] at h2
  omega
theorem digit_len {a : Nat} (ha : a < 4) : (decIB (a : Int)).data.toList.length = 1 := by
  unfold decIB decI
  rw [if_neg (by omega)]
  unfold dec
  rw [if_pos (by omega)]
  simp
theorem joinFrom_inj (b : ByteArray) : ∀ (xs ys : List Int) (acc : ByteArray) (f : Bool), xs.length = ys.length → (∀ c ∈ xs, 0 ≤ c ∧ c < 4) → (∀ c ∈ ys, 0 ≤ c ∧ c < 4) → (joinFrom b acc f (xs.map decIB)).data.toList = (joinFrom b acc f (ys.map decIB)).data.toList → xs = ys
  | [], [], _, _, _, _, _, _ => rfl
  | [], _ :: _, _, _, h, _, _, _ => by simp at h
  | _ :: _, [], _, _, h, _, _, _ => by simp at h
  | x :: xs, y :: ys, acc, f, hl, hx, hy, h => by
    simp only [List.map_cons] at h
    unfold joinFrom at h
    obtain ⟨t, h1, h2⟩ := joinFrom_data b (xs.map decIB) acc false
    obtain ⟨s, h3, h4⟩ := joinFrom_data b (ys.map decIB) acc false
    rw [h2, h4] at h
    have hx0 := hx x (by simp)
    have hy0 := hy y (by simp)
    obtain ⟨a, rfl⟩ := Int.eq_ofNat_of_zero_le hx0.1
    obtain ⟨c, rfl⟩ := Int.eq_ofNat_of_zero_le hy0.1
    have hla := digit_len (a := a) (by omega)
    have hlc := digit_len (a := c) (by omega)
    have hap : ∀ (z : ByteArray) (d : ByteArray) (t : List UInt8), (z ++ d).data.toList ++ t = z.data.toList ++ (d.data.toList ++ t) := fun z d t => by simp
    rw [hap, hap] at h
    have h5 := List.append_cancel_left h
    have h6 := List.append_inj h5 (by rw [hla, hlc])
    obtain rfl : a = c := digit_inj (by omega) (by omega) h6.1
    have h7 : (joinFrom b acc false (xs.map decIB)).data.toList = (joinFrom b acc false (ys.map decIB)).data.toList := by rw [h1, h3, h6.2]
    rw [joinFrom_inj b xs ys acc false (by simpa using hl) (fun c hc => hx c (by simp [hc])) (fun c hc => hy c (by simp [hc])) h7]
def keyC (x : List Int) : Lit := .string (decsB x ⟨#[44]⟩).data.toList
theorem keyC_inj {x y : List Int} (hl : x.length = y.length) (hx : ∀ c ∈ x, 0 ≤ c ∧ c < 4) (hy : ∀ c ∈ y, 0 ≤ c ∧ c < 4) (h : keyC x = keyC y) : x = y := by
  unfold keyC at h
  simp only [Lit.string.injEq] at h
  exact joinFrom_inj _ x y _ _ hl hx hy h
def mapC (D : List (List Int)) (j : Nat) : DataW Unit := (List.range j).foldl (fun M i => M.put (keyC (D.getD i [])) (.lit (.int .i64 (i : Int)))) (.map [])
theorem mapC_succ (D : List (List Int)) (j : Nat) : mapC D (j + 1) = (mapC D j).put (keyC (D.getD j [])) (.lit (.int .i64 (j : Int))) := by
  unfold mapC; rw [List.range_succ, List.foldl_append]; rfl
theorem mapC_isMap (D : List (List Int)) : ∀ j, Maps.IsMap (mapC D j)
  | 0 => Maps.isMap_empty
  | j + 1 => by rw [mapC_succ]; exact (mapC_isMap D j).put _ _
theorem keyC_isKey (x : List Int) : WideAt.IsKeyLit (keyC x) := trivial
theorem mapC_at {D : List (List Int)} (hd : D.Nodup) (hk : ∀ x ∈ D, ∀ y ∈ D, keyC x = keyC y → x = y) {i : Nat} (hi : i < D.length) : ∀ j, i < j → j ≤ D.length → (mapC D j).atKey (keyC D[i]) (.lit (.int .i64 0)) = .lit (.int .i64 (i : Int))
  | 0, h, _ => by omega
  | j + 1, h, hj => by
    rw [mapC_succ]
    have gj : D.getD j [] = D[j] := by rw [List.getD_eq_getElem?_getD, List.getElem?_eq_getElem (by omega)]; rfl
    rw [gj]
    by_cases e : i = j
    · subst e
      exact Maps.atKey_put_same (mapC_isMap D i) (keyC_isKey _) _ _
    · rw [Maps.atKey_put_other]
      · exact mapC_at hd hk hi j (by omega) (by omega)
      · intro hq
        have h1 := hk _ (List.getElem_mem hi) _ (List.getElem_mem (show j < D.length by omega)) hq
        have hp := List.pairwise_iff_getElem.1 hd
        rcases Nat.lt_or_gt_of_ne e with hlt | hgt
        · exact hp i j hi (by omega) hlt h1
        · exact hp j i (by omega) hi hgt h1.symm
end Go.Proofs.Ytjbjkfahfjoigaa
