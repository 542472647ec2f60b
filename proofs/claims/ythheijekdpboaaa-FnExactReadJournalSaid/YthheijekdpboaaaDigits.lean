/-
  Plain laws: words of a text, digits of a number.
-/
import Derived.Test.YthheijekdpboaaaText
namespace Go.Proofs.Ythheijekdpboaaa
open Go.RowKit

def mkB (l : List UInt8) : ByteArray := ⟨l.toArray⟩
theorem mkB_toList (s : ByteArray) : mkB s.data.toList = s := by cases s; rfl
theorem mkB_data (l : List UInt8) : (mkB l).data.toList = l := rfl
theorem mkB_inj {a b : List UInt8} (h : mkB a = mkB b) : a = b := by
  have := congrArg (fun s : ByteArray => s.data.toList) h
  simpa [mkB] using this
theorem mkB_append (a b : List UInt8) : mkB (a ++ b) = mkB a ++ mkB b := by apply ByteArray.ext; simp [mkB]
theorem app_list (a b : ByteArray) : (a ++ b).data.toList = a.data.toList ++ b.data.toList := by simp
theorem len_data (s : ByteArray) : s.data.toList.length = s.size := Array.length_toList
theorem head_app {l r : List UInt8} (h : l ≠ []) : (l ++ r).head? = l.head? := by cases l with
  | nil => exact absurd rfl h
  | cons x q => rfl
theorem bext {a b : ByteArray} (h : a.data.toList = b.data.toList) : a = b := by rw [← mkB_toList a, ← mkB_toList b, h]

/-- words of bytes, the first of which begins with pre -/
def wordsL (c : UInt8) (pre : List UInt8) : List UInt8 → List (List UInt8)
  | [] => [pre]
  | x :: r => if x = c then pre :: wordsL c [] r else wordsL c (pre ++ [x]) r
theorem extract_eq (s : ByteArray) (f i : Nat) : s.extract f i = mkB ((s.data.toList.drop f).take (i - f)) := by
  apply bext
  simp [mkB, ByteArray.data_extract, Array.toList_extract, List.extract_eq_take_drop]
theorem cutG_eq (s : ByteArray) (c : UInt8) : ∀ (n f i : Nat), s.size - i = n → f ≤ i → i ≤ s.size →
    cutG s c f i = (wordsL c ((s.data.toList.drop f).take (i - f)) (s.data.toList.drop i)).map mkB := by
  intro n
  induction n with
  | zero =>
    intro f i h0 hf hi
    have h1 : i = s.size := by omega
    subst h1
    have hl := len_data s
    have e : s.data.toList.drop s.size = [] := List.drop_of_length_le (by omega)
    rw [cutG_end (by omega), e, extract_eq]
    rfl
  | succ n ih =>
    intro f i h0 hf hi
    have hlt : i < s.size := by omega
    have hl := len_data s
    have hd : s.data.toList.drop i = s[i] :: s.data.toList.drop (i + 1) := by
      rw [List.drop_eq_getElem_cons (by omega)]; rfl
    by_cases e : s[i] = c
    · rw [cutG_yes hlt e, hd]
      unfold wordsL
      rw [if_pos e, List.map_cons, ih (i + 1) (i + 1) (by omega) (Nat.le_refl _) hlt, extract_eq]
      simp
    · rw [cutG_no hlt e, hd]
      unfold wordsL
      rw [if_neg e, ih f (i + 1) (by omega) (by omega) hlt]
      have h2 : (s.data.toList.drop f).take (i + 1 - f) = (s.data.toList.drop f).take (i - f) ++ [s[i]] := by
        have h3 : i + 1 - f = (i - f) + 1 := by omega
        rw [h3, List.take_succ_eq_append_getElem (by simp; omega)]
        congr 1
        simp
        have : f + (i - f) = i := by omega
        simp [this]; rfl
      rw [h2]
theorem cuts_eq (s : ByteArray) (c : UInt8) : cuts s c = (wordsL c [] s.data.toList).map mkB := by
  unfold cuts
  rw [cutG_eq s c _ 0 0 rfl (Nat.le_refl _) (Nat.zero_le _)]
  simp
theorem wordsL_no {c : UInt8} : ∀ (l pre : List UInt8), c ∉ l → wordsL c pre l = [pre ++ l]
  | [], pre, _ => by simp [wordsL]
  | x :: r, pre, h => by
    unfold wordsL
    rw [if_neg (by intro e; exact h (by simp [e])), wordsL_no r (pre ++ [x]) (fun hr => h (by simp [hr]))]
    simp
theorem wordsL_app {c : UInt8} : ∀ (l pre r : List UInt8), c ∉ l → wordsL c pre (l ++ c :: r) = (pre ++ l) :: wordsL c [] r
  | [], pre, r, _ => by
    show (if c = c then pre :: wordsL c [] r else _) = _
    rw [if_pos rfl, List.append_nil]
  | x :: l, pre, r, h => by
    show (if x = c then pre :: wordsL c [] (l ++ c :: r) else wordsL c (pre ++ [x]) (l ++ c :: r)) = _
    rw [if_neg (by intro e; exact h (by simp [e])), wordsL_app l (pre ++ [x]) r (fun hr => h (by simp [hr]))]
    simp
/-- words put together again -/
def unwords (c : UInt8) : List (List UInt8) → List UInt8
  | [] => []
  | [w] => w
  | w :: v :: r => w ++ c :: unwords c (v :: r)
theorem wordsL_ne (c : UInt8) : ∀ (l pre : List UInt8), wordsL c pre l ≠ []
  | [], pre => by simp [wordsL]
  | x :: r, pre => by
    unfold wordsL
    split
    · simp
    · exact wordsL_ne c r _
theorem unwords_wordsL (c : UInt8) : ∀ (l pre : List UInt8), unwords c (wordsL c pre l) = pre ++ l
  | [], pre => by simp [wordsL, unwords]
  | x :: r, pre => by
    unfold wordsL
    by_cases e : x = c
    · rw [if_pos e]
      have h1 := unwords_wordsL c r []
      have h2 := wordsL_ne c r []
      cases hw : wordsL c [] r with
      | nil => exact absurd hw h2
      | cons v q =>
        rw [hw] at h1
        unfold unwords
        rw [h1, e]; simp
    · rw [if_neg e, unwords_wordsL c r (pre ++ [x])]; simp
theorem cuts_one {s : ByteArray} {c : UInt8} (h : c ∉ s.data.toList) : cuts s c = [s] := by
  rw [cuts_eq, wordsL_no _ _ h]; simp [mkB_toList]
theorem cuts_app {x y : ByteArray} {c : UInt8} (h : c ∉ x.data.toList) : cuts (x ++ (mkB [c] ++ y)) c = x :: cuts y c := by
  rw [cuts_eq, cuts_eq, app_list, app_list, mkB_data, List.singleton_append, wordsL_app _ _ _ h]
  simp [mkB_toList]
theorem cuts_len (s : ByteArray) (c : UInt8) : 1 ≤ (cuts s c).length := by
  rw [cuts_eq, List.length_map]
  have := wordsL_ne c s.data.toList []
  cases hw : wordsL c [] s.data.toList with
  | nil => exact absurd hw this
  | cons v q => simp
theorem wordsL_lens (c : UInt8) : ∀ (l pre : List UInt8), (wordsL c pre l).length ≤ l.length + 1 ∧ ∀ w ∈ wordsL c pre l, w.length ≤ pre.length + l.length
  | [], pre => by simp [wordsL]
  | x :: r, pre => by
    unfold wordsL
    split
    · have h := wordsL_lens c r []
      refine ⟨by simp; omega, fun w hw => ?_⟩
      simp at hw
      rcases hw with rfl | hw
      · omega
      · have := h.2 w hw; simp at this ⊢; omega
    · have h := wordsL_lens c r (pre ++ [x])
      refine ⟨by simp; omega, fun w hw => ?_⟩
      have := h.2 w hw
      simp at this ⊢; omega
theorem cuts_lens (s : ByteArray) (c : UInt8) : (cuts s c).length ≤ s.size + 1 ∧ ∀ w ∈ cuts s c, w.size ≤ s.size := by
  have hl := len_data s
  have h := wordsL_lens c s.data.toList []
  rw [cuts_eq]
  refine ⟨by simp; omega, fun w hw => ?_⟩
  simp at hw
  obtain ⟨l, hl2, rfl⟩ := hw
  have := h.2 l hl2
  have e : (mkB l).size = l.length := by simp [mkB, ByteArray.size]
  simp at this
  omega
/-- what words say of the text -/
theorem cuts_back1 {s x : ByteArray} {c : UInt8} (h : cuts s c = [x]) : s = x := by
  rw [cuts_eq] at h
  have h2 := unwords_wordsL c s.data.toList []
  cases hw : wordsL c [] s.data.toList with
  | nil => rw [hw] at h; simp at h
  | cons v q =>
    rw [hw] at h h2
    simp at h
    obtain ⟨rfl, rfl⟩ := h
    simp [unwords] at h2
    rw [h2, mkB_toList]
theorem cuts_back2 {s x y : ByteArray} {c : UInt8} (h : cuts s c = [x, y]) : s = x ++ (mkB [c] ++ y) := by
  rw [cuts_eq] at h
  have h2 := unwords_wordsL c s.data.toList []
  match hw : wordsL c [] s.data.toList, h, h2 with
  | [v, q], h, h2 =>
    simp at h
    obtain ⟨rfl, rfl⟩ := h
    simp [unwords] at h2
    apply bext
    rw [app_list, app_list, ← h2]; rfl
theorem cuts_back3 {s x y z : ByteArray} {c : UInt8} (h : cuts s c = [x, y, z]) : s = x ++ (mkB [c] ++ (y ++ (mkB [c] ++ z))) := by
  rw [cuts_eq] at h
  have h2 := unwords_wordsL c s.data.toList []
  match hw : wordsL c [] s.data.toList, h, h2 with
  | [v, q, r], h, h2 =>
    simp at h
    obtain ⟨rfl, rfl, rfl⟩ := h
    simp [unwords] at h2
    apply bext
    rw [app_list, app_list, app_list, app_list, ← h2]; simp [mkB]

/-- the value of digits, as a list -/
def valL : List UInt8 → Int → Int
  | [], a => a
  | c :: r, a => if 48 ≤ c.toNat ∧ c.toNat ≤ 57 then valL r (a * 10 + ((c.toNat : Int) - 48)) else -1
theorem valG_eq (s : ByteArray) : ∀ (n i : Nat) (a : Int), s.size - i = n → i ≤ s.size → valG s a i = valL (s.data.toList.drop i) a := by
  have hl := len_data s
  intro n
  induction n with
  | zero => intro i a h0 hi; rw [valG_end (by omega), List.drop_of_length_le (by omega)]; rfl
  | succ n ih =>
    intro i a h0 hi
    have hlt : i < s.size := by omega
    have hd : s.data.toList.drop i = s[i] :: s.data.toList.drop (i + 1) := by
      rw [List.drop_eq_getElem_cons (by omega)]; rfl
    rw [hd]
    unfold valL
    by_cases e : 48 ≤ s[i].toNat ∧ s[i].toNat ≤ 57
    · rw [valG_yes hlt e, if_pos e, ih (i + 1) _ (by omega) hlt]
    · rw [valG_no hlt e, if_neg e]
def AllD (l : List UInt8) : Prop := ∀ c ∈ l, 48 ≤ c.toNat ∧ c.toNat ≤ 57
theorem valL_app : ∀ (l r : List UInt8) (a : Int), AllD l → valL (l ++ r) a = valL r (valL l a)
  | [], r, a, _ => rfl
  | c :: l, r, a, h => by
    have hc := h c (by simp)
    rw [List.cons_append]
    conv => lhs; unfold valL
    conv => rhs; arg 2; unfold valL
    rw [if_pos hc, if_pos hc]
    exact valL_app l r _ (fun x hx => h x (by simp [hx]))
theorem valL_nonneg : ∀ (l : List UInt8) (a : Int), AllD l → 0 ≤ a → 0 ≤ valL l a
  | [], a, _, h => h
  | c :: l, a, h, ha => by
    have hc := h c (by simp)
    unfold valL
    rw [if_pos hc]
    exact valL_nonneg l _ (fun x hx => h x (by simp [hx])) (by omega)
theorem valL_all : ∀ (l : List UInt8) (a : Int), 0 ≤ a → 0 ≤ valL l a → AllD l
  | [], a, _, _ => by intro c hc; simp at hc
  | c :: l, a, ha, h => by
    unfold valL at h
    by_cases hc : 48 ≤ c.toNat ∧ c.toNat ≤ 57
    · rw [if_pos hc] at h
      have := valL_all l _ (by omega) h
      intro x hx
      simp at hx
      rcases hx with rfl | hx
      · exact hc
      · exact this x hx
    · rw [if_neg hc] at h; omega
theorem dig_nat {n : Nat} (h : n < 10) : (dig n).toNat = 48 + n := by
  unfold dig; rw [UInt8.toNat_ofNat']; omega
theorem dec_all (n : Nat) : AllD (dec n) := by
  induction n using Nat.strongRecOn with
  | ind n ih =>
    by_cases h : n < 10
    · rw [dec_lt h]
      intro c hc
      simp at hc
      subst hc
      rw [dig_nat h]; omega
    · rw [dec_ge (by omega)]
      intro c hc
      simp at hc
      rcases hc with hc | hc
      · exact ih (n / 10) (by omega) c hc
      · subst hc; rw [dig_nat (by omega)]; omega
theorem valL_dec (n : Nat) : valL (dec n) 0 = n := by
  induction n using Nat.strongRecOn with
  | ind n ih =>
    by_cases h : n < 10
    · rw [dec_lt h]
      unfold valL
      rw [dig_nat h, if_pos (by omega)]
      unfold valL; omega
    · rw [dec_ge (by omega), valL_app _ _ _ (dec_all _), ih (n / 10) (by omega)]
      unfold valL
      rw [dig_nat (by omega), if_pos (by omega)]
      unfold valL; omega
theorem dec_ne (n : Nat) : dec n ≠ [] := by
  have := dec_pos n
  intro e; rw [e] at this; simp at this
theorem valL_back : ∀ (n : Nat) (l : List UInt8), l.length = n → AllD l → l ≠ [] → (l.head? ≠ some 48 ∨ l.length = 1) → l = dec (valL l 0).toNat := by
  intro n
  induction n using Nat.strongRecOn with
  | ind n ih =>
    intro l hl hd hne hh
    rcases List.eq_nil_or_concat l with h0 | ⟨l', c, rfl⟩
    · exact absurd h0 hne
    · rw [List.concat_eq_append] at hl hd hh ⊢
      have hc := hd c (by simp)
      have hd' : AllD l' := fun x hx => hd x (by simp [hx])
      have hdig : dig (c.toNat - 48) = c := by
        apply UInt8.toNat_inj.1
        rw [dig_nat (by omega)]; omega
      cases l' with
      | nil =>
        simp only [List.nil_append]
        unfold valL
        rw [if_pos hc]
        unfold valL
        have e : ((0 : Int) * 10 + ((c.toNat : Int) - 48)).toNat = c.toNat - 48 := by omega
        rw [e, dec_lt (by omega), hdig]
      | cons x q =>
        have hx : (x :: q).head? ≠ some 48 := by
          rcases hh with h | h
          · simpa using h
          · simp at h
        have h1 := ih (x :: q).length (by simp at hl ⊢; omega) (x :: q) rfl hd' (by simp) (.inl hx)
        have h2 := valL_nonneg (x :: q) 0 hd' (Int.le_refl _)
        have h3 : 1 ≤ (valL (x :: q) 0).toNat := by
          rcases Nat.eq_zero_or_pos (valL (x :: q) 0).toNat with h0 | h0
          · rw [h0, dec_lt (by omega)] at h1
            rw [h1] at hx
            exact absurd rfl hx
          · exact h0
        rw [valL_app _ _ _ hd']
        generalize hv : valL (x :: q) 0 = v at h1 h2 h3
        unfold valL
        rw [if_pos hc]
        unfold valL
        have e1 : (v * 10 + ((c.toNat : Int) - 48)).toNat = v.toNat * 10 + (c.toNat - 48) := by omega
        rw [e1, dec_ge (by omega)]
        have e2 : (v.toNat * 10 + (c.toNat - 48)) / 10 = v.toNat := by omega
        have e3 : (v.toNat * 10 + (c.toNat - 48)) % 10 = c.toNat - 48 := by omega
        rw [e2, e3, hdig, ← h1]
theorem valG_decB (n : Nat) : valG (decB n) 0 0 = n := by
  rw [valG_eq _ _ 0 0 rfl (Nat.zero_le _)]
  have : (decB n).data.toList = dec n := by simp [decB]
  rw [this]
  simpa using valL_dec n
theorem decB_get (n : Nat) (h : 0 < (decB n).size) : (decB n)[0].toNat = 48 → n = 0 := by
  intro h48
  have e : (decB n).data.toList = dec n := by simp [decB]
  have h1 : (dec n).head? = some (decB n)[0] := by
    rw [← e]
    have : (decB n).data.toList[0]? = some (decB n)[0] := by
      rw [List.getElem?_eq_getElem (by rw [len_data]; exact h)]; rfl
    simpa [List.head?_eq_getElem?] using this
  have h3 : (decB n)[0] = 48 := UInt8.toNat_inj.1 (by rw [h48]; rfl)
  rw [h3] at h1
  induction n using Nat.strongRecOn with
  | ind n ih =>
    by_cases h10 : n < 10
    · rw [dec_lt h10] at h1
      simp at h1
      have := dig_nat h10
      rw [h1] at this
      have h4 : (48 : UInt8).toNat = 48 := rfl
      omega
    · rw [dec_ge (by omega)] at h1
      have h5 : (dec (n / 10)).head? = some 48 := by
        rw [head_app (dec_ne _)] at h1; exact h1
      exfalso
      have : ∀ m : Nat, 0 < m → (dec m).head? ≠ some 48 := by
        intro m
        induction m using Nat.strongRecOn with
        | ind m im =>
          intro hm hh
          by_cases h9 : m < 10
          · rw [dec_lt h9] at hh
            simp at hh
            have := dig_nat h9
            rw [hh] at this
            have h4 : (48 : UInt8).toNat = 48 := rfl
            omega
          · rw [dec_ge (by omega), head_app (dec_ne _)] at hh
            exact im (m / 10) (by omega) (by omega) hh
      exact this (n / 10) (by omega) h5
theorem numN_decB {n : Nat} (h : n < 1000000000) : numN (decB n) = n := by
  have h1 := decB_size_le (k := 8) (n := n) h
  have h2 := dec_pos n
  rw [← decB_size] at h2
  unfold numN
  rw [dif_pos (by omega), if_neg, valG_decB]
  rintro ⟨h3, h4⟩
  have := decB_get n (by omega) h3
  subst this
  rw [decB_size, dec_lt (by omega)] at h4
  simp at h4
theorem numN_back {s : ByteArray} (h : 0 ≤ numN s) : s = decB (numN s).toNat := by
  unfold numN at h ⊢
  by_cases h1 : 1 ≤ s.size ∧ s.size ≤ 9
  · rw [dif_pos h1] at h ⊢
    by_cases h2 : s[0].toNat = 48 ∧ 1 < s.size
    · rw [if_pos h2] at h; omega
    · rw [if_neg h2] at h ⊢
      rw [valG_eq _ _ 0 0 rfl (Nat.zero_le _), List.drop_zero] at h ⊢
      have hl := len_data s
      have ha := valL_all _ 0 (Int.le_refl _) h
      have hb := valL_back _ s.data.toList rfl ha (by intro e; rw [e] at hl; simp at hl; omega) (by
        by_cases h3 : 1 < s.size
        · left
          intro h4
          apply h2
          refine ⟨?_, h3⟩
          have h5 : s.data.toList[0]? = some s[0] := by rw [List.getElem?_eq_getElem (by omega)]; rfl
          rw [List.head?_eq_getElem?, h5] at h4
          injection h4 with h4
          rw [h4]; rfl
        · right; omega)
      rw [← mkB_toList s]
      conv => lhs; rw [hb]
      rfl
  · rw [dif_neg h1] at h; omega
/-- the program's number -/
def digsB (s : ByteArray) : ByteArray := if h : 0 < s.size then (if s[0] = 45 then s.extract 1 s.size else s) else s
def sgnB (s : ByteArray) : Int := if (digsB s).size < s.size then - valG (digsB s) 0 0 else valG (digsB s) 0 0
def readG (s : ByteArray) : Int × Bool :=
  if 1 ≤ (digsB s).size ∧ (digsB s).size ≤ 18 then (if valG (digsB s) 0 0 < 0 then (0, false) else (if decIB (sgnB s) = s then (sgnB s, true) else (0, false))) else (0, false)
theorem readG_decB {n : Nat} (h : n < 1000000000000000000) : readG (decB n) = ((n : Int), true) := by
  have h1 := decB_size_le (k := 17) (n := n) h
  have h2 := dec_pos n
  rw [← decB_size] at h2
  have hd : digsB (decB n) = decB n := by
    unfold digsB
    rw [dif_pos h2, if_neg]
    intro e
    have h3 := dec_all n (decB n)[0] (by
      have : (decB n)[0] ∈ (decB n).data.toList := by
        have : (decB n)[0] = (decB n).data.toList[0]'(by rw [len_data]; exact h2) := rfl
        rw [this]; exact List.getElem_mem _
      simpa [decB] using this)
    rw [e] at h3
    have : (45 : UInt8).toNat = 45 := rfl
    omega
  have hs : sgnB (decB n) = n := by unfold sgnB; rw [hd, if_neg (by omega), valG_decB]
  unfold readG
  rw [hd, if_pos (by omega), valG_decB, if_neg (by omega), hs, if_pos (decIB_nat n)]
theorem readG_back {s : ByteArray} (h : (readG s).2 = true) : s = decIB (readG s).1 := by
  unfold readG at h ⊢
  by_cases h1 : 1 ≤ (digsB s).size ∧ (digsB s).size ≤ 18
  · rw [if_pos h1] at h ⊢
    by_cases h2 : valG (digsB s) 0 0 < 0
    · rw [if_pos h2] at h; simp at h
    · rw [if_neg h2] at h ⊢
      by_cases h3 : decIB (sgnB s) = s
      · rw [if_pos h3]; exact h3.symm
      · rw [if_neg h3] at h; simp at h
  · rw [if_neg h1] at h; simp at h
theorem decIB_pos {n : Int} (h : 0 ≤ n) : decIB n = decB n.toNat := by
  obtain ⟨m, rfl⟩ := Int.eq_ofNat_of_zero_le h
  rw [decIB_nat]; rfl
end Go.Proofs.Ythheijekdpboaaa
