/-
  CountColourings, both sides. With it: All colourings, the program's; CountColourings of the program. All colourings, the reference's, by numbers; both lists are one. All colourings by numbers: the reference's walk; CountColourings, both sides.
-/
import Derived.Test.YtjbjkfahfjoigaaZRowCanRecolour11
import Derived.Deep.DeepCutAuto
import Derived.Deep.RegionWith
set_option linter.unusedVariables false
set_option linter.unusedSimpArgs false
namespace Go.Proofs.Ytjbjkfahfjoigaa
open Go.RowKit Go.Sort
theorem colD_len (q : Nat) (part : List Int) (es : List (List Int)) : ∀ (f : Nat) (l : List Int), (colD q part es f l).length ≤ q ^ f
  | 0, l => by unfold colD; split <;> simp
  | f + 1, l => by
    unfold colD
    have key : ∀ L : List Int, (L.flatMap fun c => colD q part es f (l ++ [c])).length ≤ L.length * q ^ f := by
      intro L
      induction L with
      | nil => simp
      | cons x r ih =>
        rw [List.flatMap_cons, List.length_append, List.length_cons, Nat.add_mul]
        have := colD_len q part es f (l ++ [x])
        omega
    refine Nat.le_trans (key _) ?_
    rw [Nat.pow_succ, Nat.mul_comm]
    refine Nat.mul_le_mul_left _ (Nat.le_trans (List.length_filter_le _ _) (by rw [upTo_length]; exact Nat.le_refl _))
theorem pow_small {q m : Nat} (hq : q ≤ 4) (hm : m ≤ 5) : q ^ m ≤ 1024 :=
  Nat.le_trans (Nat.pow_le_pow_left hq m) (Nat.le_trans (Nat.pow_le_pow_right (by decide) hm) (by decide))
set_option maxRecDepth 100000 in
set_option maxHeartbeats 4000000 in
theorem colourings_any {v u : Value} {es : List (List Int)} {part : List Int} (m q : Nat) (w : World) (ha : SlII w v es) (hu : SlI w u part) (hE : EdgesB m es) (hm : m ≤ 5) (hq : q ≤ 4) (hpl : part.length = m) :
    Calls Try.prog 64 #[.agg #[.int .i64 m, v], .int .i64 q, u] w fun e w' => ∃ r, e = .returned r ∧ OwnII w' w.heap.size r (colD q part es m []) ∧ Below w.heap.size w w' := by
  have hmf : ∀ (fn : Fn) (first cap : Array Value) (w : World), (Instr.makeFunc fn first cap).run Try.prog w = .ok (.func fn first cap) w := fun _ _ _ _ => rfl
  have HA := Lib.hid (fun W (h : Below w.heap.size w W) => ha.below h)
  have HV := Lib.hid (fun W (h : Below w.heap.size w W) => hu.below h)
  have hlen := Nat.le_trans (colD_len q part es m []) (pow_small hq hm)
  have HLEN := Lib.hid hlen
  obtain ⟨a, ca, us, rfl, _⟩ := ha
  obtain ⟨va, vc, rfl, _⟩ := hu
  have HE := Lib.hid hE
  have HPL := Lib.hid hpl
  have hbx : ColBox ((((((w.alloc (.cells #[.int .i64 m, .slice a es.length ca] 35)).alloc (.cells #[.int .i64 q] 2)).alloc (.cells #[.slice va part.length vc] 42)).alloc (.cells #[] 42)).alloc (.cells #[.slice (some ⟨w.heap.size + 1 + 1 + 1, 0, none⟩) 0 0] 22)).alloc (.cells #[.func (.func 81) #[] #[.pointer (some ⟨w.heap.size, 0, none⟩), .pointer (some ⟨w.heap.size + 1 + 1 + 1 + 1, 0, none⟩), .pointer (some ⟨w.heap.size + 1, 0, none⟩), .pointer (some ⟨w.heap.size + 1 + 1, 0, none⟩), .pointer (some ⟨w.heap.size + 1 + 1 + 1 + 1 + 1, 0, none⟩)]] 71)) w.heap.size (w.heap.size + 1) (w.heap.size + 1 + 1) (w.heap.size + 1 + 1 + 1 + 1) (w.heap.size + 1 + 1 + 1 + 1 + 1) m q (.slice a es.length ca) (.slice va part.length vc) (.slice (some ⟨w.heap.size + 1 + 1 + 1, 0, none⟩) 0 0) := by
    refine ⟨⟨by first | (simp; done) | (simp; omega), fun i x hx => ?_⟩, ⟨by first | (simp; done) | (simp; omega), fun i x hx => ?_⟩, ⟨by first | (simp; done) | (simp; omega), fun i x hx => ?_⟩, ?_, ?_, ?_, ?_, ?_, ?_⟩
    · match i, hx with
      | 0, hx => simp at hx; subst hx; simp [go_sem]
      | 1, hx => simp at hx; subst hx; simp [go_sem]
    · match i, hx with
      | 0, hx => simp at hx; subst hx; simp [go_sem]
    · match i, hx with
      | 0, hx => simp at hx; subst hx; simp [go_sem]
    · simp [go_sem]
    · simp [go_sem]
    · simp [go_sem]
    all_goals (repeat (first | exact not_isE_at (by first | (simp; done) | fail) (by decide) | rw [isE_old (by first | (simp; done) | (simp; omega) | fail)]))
  have hown : OwnII ((((((w.alloc (.cells #[.int .i64 m, .slice a es.length ca] 35)).alloc (.cells #[.int .i64 q] 2)).alloc (.cells #[.slice va part.length vc] 42)).alloc (.cells #[] 42)).alloc (.cells #[.slice (some ⟨w.heap.size + 1 + 1 + 1, 0, none⟩) 0 0] 22)).alloc (.cells #[.func (.func 81) #[] #[.pointer (some ⟨w.heap.size, 0, none⟩), .pointer (some ⟨w.heap.size + 1 + 1 + 1 + 1, 0, none⟩), .pointer (some ⟨w.heap.size + 1, 0, none⟩), .pointer (some ⟨w.heap.size + 1 + 1, 0, none⟩), .pointer (some ⟨w.heap.size + 1 + 1 + 1 + 1 + 1, 0, none⟩)]] 71)) (w.heap.size + 3) (.slice (some ⟨w.heap.size + 1 + 1 + 1, 0, none⟩) 0 0) [] := by
    have h0 := OwnII.empty (((w.alloc (.cells #[.int .i64 m, .slice a es.length ca] 35)).alloc (.cells #[.int .i64 q] 2)).alloc (.cells #[.slice va part.length vc] 42)) (base := w.heap.size + 3) (by simp)
    rw [show (((w.alloc (.cells #[.int .i64 m, .slice a es.length ca] 35)).alloc (.cells #[.int .i64 q] 2)).alloc (.cells #[.slice va part.length vc] 42)).heap.size = w.heap.size + 1 + 1 + 1 by simp] at h0
    exact (h0.below ((Below.refl _ _).alloc (Nat.le_refl _) _)).below ((Below.refl _ _).alloc (Nat.le_refl _) _)
  have bw : Below w.heap.size w ((((((w.alloc (.cells #[.int .i64 m, .slice a es.length ca] 35)).alloc (.cells #[.int .i64 q] 2)).alloc (.cells #[.slice va part.length vc] 42)).alloc (.cells #[] 42)).alloc (.cells #[.slice (some ⟨w.heap.size + 1 + 1 + 1, 0, none⟩) 0 0] 22)).alloc (.cells #[.func (.func 81) #[] #[.pointer (some ⟨w.heap.size, 0, none⟩), .pointer (some ⟨w.heap.size + 1 + 1 + 1 + 1, 0, none⟩), .pointer (some ⟨w.heap.size + 1, 0, none⟩), .pointer (some ⟨w.heap.size + 1 + 1, 0, none⟩), .pointer (some ⟨w.heap.size + 1 + 1 + 1 + 1 + 1, 0, none⟩)]] 71)) := (((((Below.refl _ _).alloc (Nat.le_refl _) _).alloc (by simp) _).alloc (by simp; omega) _).alloc (by simp; omega) _).alloc (by simp; omega) _ |>.alloc (by simp; omega) _
  have HBX := Lib.hid hbx
  have HOW := Lib.hid hown.b
  have HBW := Lib.hid bw
  clear hbx hown bw hE hpl hlen
  go_enter Try.func64, Try.ntmps64
  go_wp2_with fail
  refine (col_any w (w.heap.size + 3) (by omega) (by omega) (by omega) (by omega) (by omega) (by omega) HE.out (by omega) (by omega) HPL.out HA HV m [] _ _ [] _ _ (Lib.hid (by simp)) HBX.out HOW.out (OwnI.nil _ _) (Lib.hid (fun g hg => by simp [Value.ownBlock] at hg)) (by have := HLEN.out; simp; omega) (by first | (simp; done) | (simp; omega)) HBW.out).mono ?_
  rintro e w1 ⟨v1, rfl, x1, o1, f1⟩
  rw [List.nil_append] at o1
  have p0 := x1.o0
  obtain ⟨ra, n, rc, rfl, _⟩ := o1.form
  have HF := Lib.hid f1
  have HO := Lib.hid o1
  clear x1 f1 o1
  go_wp2
  go_ret
  exact ⟨_, rfl, HO.out.lower (by omega), HBW.out.trans (HF.out.below (by omega) (by omega) (by simp; omega))⟩
theorem rep_snoc' (k : Nat) (x : Int) : List.replicate k x ++ [x] = List.replicate (k + 1) x := by rw [List.replicate_succ']
set_option maxHeartbeats 1000000 in
theorem freePart_any {v : Value} (m : Nat) (w : World) (hv : ∃ a l c, v = .slice a l c) (hm : m ≤ 1000) :
    Calls Try.prog 65 #[.agg #[.int .i64 m, v]] w fun e w' => ∃ r, e = .returned r ∧ OwnI w' w.heap.size r (List.replicate m (-1)) ∧ Below w.heap.size w w' := by
  obtain ⟨a, l, c, rfl⟩ := hv
  have b0 : Below w.heap.size w ((w.alloc (.cells #[.int .i64 m, .slice a l c] 35)).alloc (.cells #[] 2)) := ((Below.refl _ _).alloc (Nat.le_refl _) _).alloc (by simp) _
  have own0 := OwnI.empty (w.alloc (.cells #[.int .i64 m, .slice a l c] 35)) (base := w.heap.size) (by simp)
  simp only [show (w.alloc (.cells #[.int .i64 m, .slice a l c] 35)).heap.size = w.heap.size + 1 from by simp] at own0
  go_enter Try.func65, Try.ntmps65
  go_wp2
  go_loopw [3, 7] (fun v i wr => ∃ k : Nat, k ≤ m ∧ i = .int .i64 k ∧ OwnI wr w.heap.size v (List.replicate k (-1)) ∧ Below w.heap.size w wr) (fun _ i _ => m - (intOf i).toNat)
  case atStart => exact ⟨0, Nat.zero_le _, rfl, own0, b0⟩
  case round =>
    clear own0 b0
    obtain ⟨k, hk, rfl, hown, hbw⟩ := hrel
    by_cases hlt : k < m
    · have hsz := hbw.size
      go_wp2_with (at_builtin; refine append_i64 _ (-1) _ _ rfl rfl rfl hown rfl (by simp; omega) hsz ?_)
      intro v' w1 hown1 hb1 hsz1
      rw [rep_snoc'] at hown1
      have hb2 := (hbw.alloc hsz _).trans hb1
      clear hown hb1
      go_wp2
      go_roundw
      case rel => exact ⟨k + 1, by omega, by go_num, hown1, hb2⟩
      case measure => simp [intOf]; omega
    · obtain rfl : k = m := by omega
      go_wp2
      go_ret
      exact ⟨_, rfl, hown, hbw⟩
def countL (q m : Nat) (es : List (List Int)) : Nat := (colD q (List.replicate m (-1)) es m []).length
end Go.Proofs.Ytjbjkfahfjoigaa
namespace Go.Proofs.Ytjbjkfahfjoigaa
open Go.RowKit Go.Sort
/-- the j last digits of n to the base q, the first one first -/
def digs (q : Nat) : Nat → Nat → List Int
  | 0, _ => []
  | j + 1, n => ((n / q ^ j % q : Nat) : Int) :: digs q j n
def okT (part : List Int) (q m j n : Nat) : Bool := (List.range j).all fun t => okP part (m - 1 - t) ((n / q ^ t % q : Nat) : Int)
theorem okT_succ (part : List Int) (q m j n : Nat) : okT part q m (j + 1) n = (okT part q m j n && okP part (m - 1 - j) ((n / q ^ j % q : Nat) : Int)) := by
  unfold okT; rw [List.range_succ, List.all_append]; simp
theorem digs_len (q n : Nat) : ∀ j, (digs q j n).length = j
  | 0 => rfl
  | j + 1 => by simp [digs, digs_len q n j]
def goodC (part : List Int) (es : List (List Int)) (q m n : Nat) : Bool := okT part q m m n && properB es (digs q m n)
def colS (q : Nat) (part : List Int) (es : List (List Int)) (m N : Nat) : List (List Int) := ((List.range N).filter (goodC part es q m)).map (digs q m)
theorem colS_yes {q m n : Nat} {part : List Int} {es : List (List Int)} (h : goodC part es q m n = true) : colS q part es m (n + 1) = colS q part es m n ++ [digs q m n] := by
  unfold colS; rw [List.range_succ, List.filter_append, List.map_append]; simp [h]
theorem colS_no {q m n : Nat} {part : List Int} {es : List (List Int)} (h : goodC part es q m n = false) : colS q part es m (n + 1) = colS q part es m n := by
  unfold colS; rw [List.range_succ, List.filter_append, List.map_append]; simp [h]
theorem colS_len (q : Nat) (part : List Int) (es : List (List Int)) (m N : Nat) : (colS q part es m N).length ≤ N := by
  unfold colS
  rw [List.length_map]
  exact Nat.le_trans (List.length_filter_le _ _) (by simp)
def extT (q : Nat) : Nat → List Int → List (List Int)
  | 0, l => [l]
  | f + 1, l => (upTo q).flatMap fun c => extT q f (l ++ [c])
def compF (part : List Int) (i : Nat) (l : List Int) : Bool := (List.range l.length).all fun j => decide (j < i) || okP part j (l.getD j 0)
theorem extT_pre (q : Nat) : ∀ (f : Nat) (l x : List Int), x ∈ extT q f l → ∃ y, x = l ++ y ∧ y.length = f
  | 0, l, x, h => by simp [extT] at h; exact ⟨[], by simp [h], rfl⟩
  | f + 1, l, x, h => by
    unfold extT at h
    rw [List.mem_flatMap] at h
    obtain ⟨c, _, hx⟩ := h
    obtain ⟨y, h1, h2⟩ := extT_pre q f (l ++ [c]) x hx
    exact ⟨c :: y, by rw [h1]; simp, by simp [h2]⟩
theorem filter_flatMap' {α β : Type} (p : β → Bool) (f : α → List β) : ∀ L : List α, (L.flatMap f).filter p = L.flatMap fun x => (f x).filter p
  | [] => rfl
  | x :: r => by rw [List.flatMap_cons, List.flatMap_cons, List.filter_append, filter_flatMap' p f r]
theorem flatMap_filter' {α β : Type} (p : α → Bool) (f : α → List β) : ∀ L : List α, (L.filter p).flatMap f = L.flatMap fun x => if p x = true then f x else []
  | [] => rfl
  | x :: r => by
    rw [List.filter_cons, List.flatMap_cons]
    split
    · rw [List.flatMap_cons, flatMap_filter' p f r]
    · rw [flatMap_filter' p f r]; rfl
theorem flatMap_congr' {α β : Type} {f g : α → List β} : ∀ {L : List α}, (∀ x ∈ L, f x = g x) → L.flatMap f = L.flatMap g
  | [], _ => rfl
  | x :: r, h => by rw [List.flatMap_cons, List.flatMap_cons, h x (by simp), flatMap_congr' (fun y hy => h y (by simp [hy]))]
theorem compF_step {part l y : List Int} {c : Int} (h : okP part l.length c = true) : compF part (l.length + 1) (l ++ [c] ++ y) = compF part l.length (l ++ [c] ++ y) := by
  rw [Bool.eq_iff_iff]
  unfold compF
  simp only [List.all_eq_true, List.mem_range, Bool.or_eq_true, decide_eq_true_eq]
  constructor
  · intro hh j hj
    rcases hh j hj with h1 | h1
    · by_cases hjl : j < l.length
      · exact .inl hjl
      · right
        obtain rfl : j = l.length := by omega
        have e : (l ++ [c] ++ y).getD l.length 0 = c := by
          rw [List.append_assoc, List.getD_eq_getElem?_getD, List.getElem?_append_right (Nat.le_refl _), Nat.sub_self]; rfl
        rw [e]; exact h
    · exact .inr h1
  · intro hh j hj
    rcases hh j hj with h1 | h1
    · exact .inl (by omega)
    · exact .inr h1
theorem compF_no {part l y : List Int} {c : Int} (h : okP part l.length c = false) : compF part l.length (l ++ [c] ++ y) = false := by
  unfold compF
  rw [List.all_eq_false]
  refine ⟨l.length, by simp, ?_⟩
  have e : (l ++ [c] ++ y).getD l.length 0 = c := by
    rw [List.append_assoc, List.getD_eq_getElem?_getD, List.getElem?_append_right (Nat.le_refl _), Nat.sub_self]; rfl
  rw [e, h]; simp
theorem colD_ext (q : Nat) (part : List Int) (es : List (List Int)) : ∀ (f : Nat) (l : List Int), colD q part es f l = (extT q f l).filter fun x => compF part l.length x && properB es x
  | 0, l => by
    unfold colD extT
    have : compF part l.length l = true := by
      unfold compF
      simp only [List.all_eq_true, List.mem_range, Bool.or_eq_true, decide_eq_true_eq]
      intro j hj; exact .inl hj
    rw [List.filter_cons, this]
    simp
  | f + 1, l => by
    unfold colD extT
    rw [flatMap_filter', filter_flatMap']
    refine flatMap_congr' fun c _ => ?_
    split
    · rename_i hok
      rw [colD_ext q part es f (l ++ [c])]
      refine List.filter_congr fun x hx => ?_
      obtain ⟨y, rfl, _⟩ := extT_pre q f _ x hx
      have : (l ++ [c]).length = l.length + 1 := by simp
      rw [this, compF_step hok]
    · rename_i hok
      symm
      rw [List.filter_eq_nil_iff]
      intro x hx
      obtain ⟨y, rfl, _⟩ := extT_pre q f _ x hx
      rw [compF_no (by simpa using hok)]; simp
theorem range_mul (b : Nat) : ∀ a, List.range (a * b) = (List.range a).flatMap fun c => (List.range b).map fun r => c * b + r
  | 0 => by simp
  | a + 1 => by
    rw [Nat.add_mul, Nat.one_mul, List.range_add, List.range_succ, List.flatMap_append, ← range_mul b a]
    simp
theorem digs_mod (q n r : Nat) (k : Nat) : ∀ j, j ≤ k → n % q ^ k = r → digs q j n = digs q j r
  | 0, _, _ => rfl
  | j + 1, hj, h => by
    unfold digs
    rw [digs_mod q n r k j (by omega) h]
    congr 2
    subst h
    have e : q ^ k = q ^ (j + 1) * q ^ (k - (j + 1)) := by rw [← Nat.pow_add]; congr 1; omega
    rw [e, Nat.pow_succ, Nat.mul_assoc, Nat.mod_mul_right_div_self, Nat.mod_mul_right_mod]
theorem extT_digs {q : Nat} (hq : 0 < q) : ∀ (f : Nat) (l : List Int), extT q f l = (List.range (q ^ f)).map fun n => l ++ digs q f n
  | 0, l => by simp [extT, digs]
  | f + 1, l => by
    unfold extT
    rw [Nat.pow_succ, Nat.mul_comm, range_mul]
    rw [List.map_flatMap]
    unfold upTo
    rw [List.flatMap_map]
    refine flatMap_congr' fun c hc => ?_
    rw [extT_digs hq f, List.map_map]
    refine List.map_congr_left fun r hr => ?_
    have hc' : c < q := by simpa using hc
    have hr' : r < q ^ f := by simpa using hr
    have hpos : 0 < q ^ f := Nat.pow_pos hq
    show l ++ [(c : Int)] ++ digs q f r = l ++ digs q (f + 1) (c * q ^ f + r)
    have e1 : (c * q ^ f + r) / q ^ f % q = c := by
      rw [Nat.mul_comm, Nat.mul_add_div hpos, Nat.div_eq_of_lt hr', Nat.add_zero, Nat.mod_eq_of_lt hc']
    have e2 : digs q f (c * q ^ f + r) = digs q f r := digs_mod q _ _ f f (Nat.le_refl _) (by rw [Nat.mul_comm, Nat.mul_add_mod, Nat.mod_eq_of_lt hr'])
    show _ = l ++ ((((c * q ^ f + r) / q ^ f % q : Nat) : Int) :: digs q f (c * q ^ f + r))
    rw [e1, e2]; simp
theorem digs_get (q n : Nat) : ∀ (m j : Nat), j < m → (digs q m n).getD j 0 = ((n / q ^ (m - 1 - j) % q : Nat) : Int)
  | 0, j, h => by omega
  | m + 1, 0, _ => by simp [digs]
  | m + 1, j + 1, h => by
    have e : m + 1 - 1 - (j + 1) = m - 1 - j := by omega
    unfold digs
    rw [List.getD_cons_succ, digs_get q n m j (by omega), e]
theorem compF_digs (part : List Int) (q m n : Nat) : compF part 0 (digs q m n) = okT part q m m n := by
  rw [Bool.eq_iff_iff]
  unfold compF okT
  simp only [List.all_eq_true, List.mem_range, Bool.or_eq_true, decide_eq_true_eq, digs_len]
  constructor
  · intro h t ht
    rcases h (m - 1 - t) (by omega) with h1 | h1
    · omega
    · rw [digs_get q n m _ (by omega), show m - 1 - (m - 1 - t) = t by omega] at h1; exact h1
  · intro h j hj
    right
    rw [digs_get q n m j hj]
    have := h (m - 1 - j) (by omega)
    rw [show m - 1 - (m - 1 - j) = j by omega] at this
    exact this
/-- both lists of colourings are one -/
theorem col_law {q m : Nat} (hq : 0 < q) (part : List Int) (es : List (List Int)) : colS q part es m (q ^ m) = colD q part es m [] := by
  rw [colD_ext, extT_digs hq, List.filter_map]
  unfold colS
  simp only [List.nil_append]
  congr 1
  refine List.filter_congr fun n _ => ?_
  show goodC part es q m n = _
  unfold goodC
  rw [← compF_digs]; rfl
end Go.Proofs.Ytjbjkfahfjoigaa
namespace Go.Proofs.Ytjbjkfahfjoigaa
open Go.RowKit Go.Sort
set_option maxHeartbeats 1000000 in
theorem l08Open_any (m : Nat) (w : World) (hm : m ≤ 1000) :
    Calls Try.prog 29 #[.int .i64 m] w fun e w' => ∃ r, e = .returned r ∧ OwnI w' w.heap.size r (List.replicate m (-1)) ∧ Below w.heap.size w w' := by
  have b0 : Below w.heap.size w (w.alloc (.cells #[] 2)) := (Below.refl _ _).alloc (Nat.le_refl _) _
  have own0 := OwnI.empty w (base := w.heap.size) (Nat.le_refl _)
  go_enter Try.func29, Try.ntmps29
  go_wp2
  go_loopw [3, 4] (fun v i wr => ∃ k : Nat, k ≤ m ∧ i = .int .i64 k ∧ OwnI wr w.heap.size v (List.replicate k (-1)) ∧ Below w.heap.size w wr) (fun _ i _ => m - (intOf i).toNat)
  case atStart => exact ⟨0, Nat.zero_le _, rfl, own0, b0⟩
  case round =>
    clear own0 b0
    obtain ⟨k, hk, rfl, hown, hbw⟩ := hrel
    by_cases hlt : k < m
    · have hsz := hbw.size
      go_wp2_with (at_builtin; refine append_i64 _ (-1) _ _ rfl rfl rfl hown rfl (by simp; omega) hsz ?_)
      intro v' w1 hown1 hb1 hsz1
      rw [rep_snoc'] at hown1
      have hb2 := (hbw.alloc hsz _).trans hb1
      clear hown hb1
      go_wp2
      go_roundw
      case rel => exact ⟨k + 1, by omega, by go_num, hown1, hb2⟩
      case measure => simp [intOf]; omega
    · obtain rfl : k = m := by omega
      go_wp2
      go_ret
      exact ⟨_, rfl, hown, hbw⟩
theorem zeros_set {k j : Nat} {d : Int} {l : List Int} : (List.replicate (k + 1) 0 ++ l).set k d = List.replicate k 0 ++ (d :: l) := by
  rw [List.replicate_succ', List.append_assoc, List.set_append_right _ _ (by simp)]
  simp
theorem zeros_get {k i : Nat} {l : List Int} {d : Int} (h : i = k) : (List.replicate k 0 ++ (d :: l)).getD i 0 = d := by
  subst h
  rw [List.getD_eq_getElem?_getD, List.getElem?_append_right (by simp)]
  simp
set_option maxRecDepth 100000 in
set_option maxHeartbeats 8000000 in
theorem l08All_any {v u : Value} {es : List (List Int)} {part : List Int} (b o m q : Nat) (w : World) (hc : GraphAt w b o m v) (ha : SlII w v es) (hu : SlI w u part) (hE : EdgesB m es) (hm1 : 1 ≤ m) (hm : m ≤ 5) (hq1 : 1 ≤ q) (hq : q ≤ 4) (hpl : part.length = m) :
    Calls Try.prog 28 #[.pointer (some ⟨b, o, none⟩), .int .i64 q, u] w fun e w' => ∃ r, e = .returned r ∧ OwnII w' w.heap.size r (colS q part es m (q ^ m)) ∧ Below w.heap.size w w' := by
  have HA := Lib.hid (fun W (h : Below w.heap.size w W) => ha.below h)
  have HC := Lib.hid (fun W (h : Below w.heap.size w W) => hc.below h)
  have HV := Lib.hid (fun W (h : Below w.heap.size w W) => hu.below h)
  have HE := Lib.hid hE
  have HPL := Lib.hid hpl
  obtain ⟨va, vc, rfl, _, hvc, _⟩ := hu
  have own0 := OwnII.empty w (base := w.heap.size) (Nat.le_refl _)
  have b0 : Below w.heap.size w (w.alloc (.cells #[] 42)) := (Below.refl _ _).alloc (Nat.le_refl _) _
  have hps := pow_small hq hm
  have HPS := Lib.hid (fun k (h : k ≤ m) => Nat.pow_le_pow_right (n := q) (by omega) h)
  unfold maxLen at hvc
  clear ha hc hE hpl
  go_enter Try.func28, Try.ntmps28
  go_wp2
  go_loopw [8, 9] (fun c i wr => ∃ k : Nat, k ≤ m ∧ i = .int .i64 k ∧ c = .int .i64 ((q ^ k : Nat) : Int) ∧ wr = w.alloc (.cells #[] 42)) (fun _ i _ => m - (intOf i).toNat)
  case atStart => exact ⟨0, Nat.zero_le _, rfl, rfl, rfl⟩
  case round =>
    obtain ⟨k, hk, rfl, rfl, rfl⟩ := hrel
    obtain ⟨_, c0, c1⟩ := HC.out _ b0
    by_cases hlt : k < m
    · have hp1 := HPS.out (k + 1) (by omega)
      have hp0 := HPS.out k hk
      have hpk : q ^ (k + 1) = q ^ k * q := Nat.pow_succ q k
      obtain ⟨P, hP⟩ : ∃ P, P = q ^ k := ⟨_, rfl⟩
      have hpk2 : ((q ^ (k + 1) : Nat) : Int) = (P : Int) * (q : Int) := by rw [hpk, ← hP]; simp
      rw [← hP] at hp0
      rw [hpk, ← hP] at hp1
      have hmul0 : (0 : Int) ≤ (P : Int) * (q : Int) := by rw [← hpk2]; omega
      have hmul1 : (P : Int) * (q : Int) ≤ 1024 := by rw [← hpk2, hpk, ← hP]; omega
      have HPK := Lib.hid hpk2
      have HPP := Lib.hid hP
      have r0 : IntKind.i64.wrap ((P : Int) * (q : Int)) = (P : Int) * (q : Int) := IntWalk.i64_in _ (by omega)
      have r1 : wrap64 ((P : Int) * (q : Int)) = (P : Int) * (q : Int) := by rw [← IntWalk.i64_left]; exact r0
      rw [show ((q ^ k : Nat) : Int) = (P : Int) by rw [hP]]
      clear hpk hpk2 hP hp0 hp1
      go_wp2
      go_roundw
      case rel => exact ⟨k + 1, by omega, by go_num, by rw [HPK.out], trivial⟩
      case measure => simp [intOf]; omega
    · obtain rfl : k = m := by omega
      obtain ⟨N, hN⟩ : ∃ N, N = q ^ k := ⟨_, rfl⟩
      rw [← hN] at hps ⊢
      have HN := Lib.hid hN
      clear hN
      go_wp2
      go_loopw [7, 10, 11, 12, 13, 14] (fun v i _ _ _ _ wr => ∃ n : Nat, n ≤ N ∧ i = .int .i64 n ∧ OwnII wr w.heap.size v (colS q part es k n) ∧ Below w.heap.size w wr) (fun _ i _ _ _ _ _ => N - (intOf i).toNat)
      case atStart => exact ⟨0, Nat.zero_le _, rfl, by simpa [colS] using own0, b0⟩
      case round =>
        clear own0 b0 c0 c1
        obtain ⟨n, hn, rfl, hown, hbr⟩ := hrel
        obtain ⟨_, c0, c1⟩ := HC.out _ hbr
        by_cases hnt : n < N
        · have hlen := colS_len q part es k n
          have hsz := hbr.size
          have HO := Lib.hid hown
          obtain ⟨oa, on, oc, rfl, _⟩ := hown.form
          clear hown
          obtain ⟨wo, hwo⟩ : ∃ wo : World, wo = wr := ⟨_, rfl⟩
          subst hwo
          go_wp2_with (at_make; refine make_i64 wo _ _ rfl rfl k rfl rfl rfl rfl (by omega) ?_)
          intro w1 hmk hb1 hz1
          have hb1w := hbr.trans (hb1.mono hsz)
          obtain ⟨_, d0, d1⟩ := HC.out _ hb1w
          clear c0 c1
          go_wp2
          go_loopw [12, 13, 14] (fun r f i wi => ∃ j z R : Nat, j + z = k ∧ i = .int .i64 ((z : Int) - 1) ∧ r = .int .i64 (R : Int) ∧ Hid (R = n / q ^ j) ∧ f = .bool (okT part q k j n) ∧ OwnI wi wo.heap.size (.slice (some ⟨wo.heap.size, 0, none⟩) k k) (List.replicate z 0 ++ digs q j n) ∧ Below wo.heap.size wo wi) (fun _ _ i _ => (intOf i + 1).toNat)
          case atStart => exact ⟨0, k, n, by omega, by go_num, rfl, Lib.hid (by simp), rfl, by simpa [digs] using hmk, hb1⟩
          case round =>
            clear hmk hb1 hb1w d0 d1 hz1
            obtain ⟨j, z, R, hjz, rfl, rfl, hRR, rfl, hcol, hbi⟩ := hrel
            have hbw := hbr.trans (hbi.mono hsz)
            cases z with
            | zero =>
              obtain rfl : j = k := by omega
              rw [show ((0 : Nat) : Int) - 1 = -1 from rfl]
              simp only [List.replicate_zero, List.nil_append] at hcol
              obtain ⟨_, d0, d1⟩ := HC.out _ hbw
              have hdl := digs_len q n j
              have hgood : goodC part es q j n = (okT part q j j n && properB es (digs q j n)) := rfl
              generalize okT part q j j n = f at hgood
              generalize hpb : properB es (digs q j n) = P at hgood
              have HPB := Lib.hid hpb
              have HG := Lib.hid hgood
              have HCOL := Lib.hid hcol
              have HDL := Lib.hid hdl
              have HBI := Lib.hid hbi
              clear hgood hpb hcol hdl
              cases f
              · go_wp2
                go_roundw
                case rel => exact ⟨n + 1, by omega, by go_num, by rw [colS_no HG.out]; exact HO.out.below hbi, hbw⟩
                case measure => simp [intOf]; omega
              · go_wp2_with fail
                refine (l08Proper_any b o j j _ (HC.out _ hbw) (HA.out _ hbw) HCOL.out.sl HE.out HDL.out).mono ?_
                rintro e w2 ⟨rfl, b2⟩
                rw [HPB.out]
                have hb2 := hbi.trans (b2.mono hbi.size)
                have hbw2 := hbr.trans (hb2.mono hsz)
                have hcol2 := HCOL.out.below b2
                have hzz := hb2.size
                clear b2 d0 d1
                cases P
                · go_wp2
                  go_roundw
                  case rel => exact ⟨n + 1, by omega, by go_num, by rw [colS_no HG.out]; exact HO.out.below hb2, hbw2⟩
                  case measure => simp [intOf]; omega
                · go_wp2_with (at_builtin; refine append_row wo w2 _ _ rfl rfl rfl HO.out hb2 hcol2 rfl (by omega) hsz ?_)
                  intro v' w3 o3 b3 z3
                  rw [← colS_yes HG.out] at o3
                  have hb3 := (hbw2.alloc (Nat.le_trans hsz hzz) _).trans b3
                  clear hcol2 b3
                  go_wp2
                  go_roundw
                  case rel => exact ⟨n + 1, by omega, by go_num, o3, hb3⟩
                  case measure => simp [intOf]; omega
            | succ z =>
              have hz1 : ((z + 1 : Nat) : Int) - 1 = (z : Int) := by omega
              rw [hz1]
              have hzk : z < k := by omega
              have hcl : (List.replicate (z + 1) 0 ++ digs q j n).length = k := by simp [digs_len]; omega
              have hset := hcol.set z ((((n / q ^ j % q : Nat) : Int)))
              rw [zeros_set (j := 0)] at hset
              have gz := hcol.cell (i := z) (by rw [hcl]; exact hzk)
              have gf := hcol.free z
              have hok := okT_succ part q k j n
              rw [show k - 1 - j = z by omega] at hok
              have hRn : R ≤ n := by rw [hRR.out]; exact Nat.div_le_self _ _
              have hRq : n / q ^ (j + 1) = R / q := by rw [hRR.out, Nat.pow_succ, Nat.div_div_eq_div_mul]
              rw [← hRR.out] at hok hset
              have hdig : digs q (j + 1) n = ((R % q : Nat) : Int) :: digs q j n := by rw [hRR.out]; rfl
              rw [← hdig] at hset
              obtain ⟨D, hD⟩ : ∃ D : Nat, D = R % q := ⟨_, rfl⟩
              have hDm : (R : Int) % (q : Int) = (D : Int) := by rw [hD]; simp
              obtain ⟨T, hT⟩ : ∃ T : Nat, T = R / q := ⟨_, rfl⟩
              have hTR : T ≤ R := by rw [hT]; exact Nat.div_le_self _ _
              have hDq : (R : Int) / (q : Int) = (T : Int) := by rw [hT]; simp
              rw [← hD] at hok hset
              have hnp : z < part.length := by rw [HPL.out]; exact hzk
              obtain ⟨_, _, he', _, _, vr0⟩ := HV.out _ (Below.refl _ _)
              simp only [Value.slice.injEq] at he'
              obtain ⟨rfl, _, rfl⟩ := he'
              obtain ⟨pb, po, hva, gp0⟩ := vr0.one (i64s_get hnp)
              obtain ⟨_, _, he2, _, _, vr1⟩ := HV.out _ hbw
              simp only [Value.slice.injEq] at he2
              obtain ⟨rfl, _, rfl⟩ := he2
              subst hva
              obtain ⟨pb', po', hva', gp⟩ := vr1.one (i64s_get hnp)
              simp only [Option.some.injEq, Addr.mk.injEq] at hva'
              obtain ⟨rfl, rfl, _⟩ := hva'
              have gpb : pb < w.heap.size := cell_lt gp0
              have hne : pb ≠ wo.heap.size := by omega
              clear gp0 vr0 vr1
              have gp2 : (wr.setCell ⟨wo.heap.size, z, none⟩ (.int .i64 (D : Int))).cell? ⟨pb, po + z, none⟩ = some (.int .i64 part[z]) := by
                rw [World.cell?_of_block (heap_setCell_other _ _ _ _ hne)]; exact gp
              have gq : (wr.setCell ⟨wo.heap.size, z, none⟩ (.int .i64 (D : Int))).cell? ⟨wo.heap.size, z, none⟩ = some (.int .i64 (D : Int)) := by simp [go_sem, gz]
              have hbs : Below wo.heap.size wo (wr.setCell ⟨wo.heap.size, z, none⟩ (.int .i64 (D : Int))) := hbi.setCell (Nat.le_refl _) _
              have hgd : part.getD z 0 = part[z] := getD_at hnp
              generalize part[z] = pc0 at gp gp2 hgd
              rw [← hT] at hRq
              clear hT
              have hps2 := hps
              have hTd : Int.tdiv (R : Int) (q : Int) = (T : Int) := by rw [Int.tdiv_eq_ediv_of_nonneg (by omega)]; exact hDq
              have hDd : Int.tmod (R : Int) (q : Int) = (D : Int) := by rw [Int.tmod_eq_emod_of_nonneg (by omega)]; exact hDm
              have r1 : IntKind.i64.wrap (T : Int) = (T : Int) := IntWalk.i64_in _ (by omega)
              have r2 : IntKind.i64.wrap (D : Int) = (D : Int) := IntWalk.i64_in _ (by have := Nat.mod_le R q; omega)
              clear hD hDm hDq hps2
              have iz1 : (z : Int) < (part.length : Int) := by omega
              have iz2 : (z : Int) < (k : Int) := by omega
              have HS := Lib.hid hset
              have HBS := Lib.hid hbs
              have HRQ := Lib.hid hRq
              have qne : ¬ ((q : Int) = 0) := by omega
              have qnz : ¬ q = 0 := by omega
              generalize okT part q k j n = f at hok
              clear hset hbs hRq hdig
              cases f
              · have HOK := Lib.hid hok
                clear hok
                go_wp2
                generalize hw2 : wr.setCell ⟨wo.heap.size, z, none⟩ (Value.int .i64 (D : Int)) = w2 at HS HBS gp2 gq ⊢
                clear hw2 gz gf gp
                have kp := fun d os => cell_regrown gp2 d os
                have kq := fun d os => cell_regrown gq d os
                refine wp_region_quiet_below (by kernel_rfl) (by kernel_rfl) ?_
                repeat (first | go_big_quiet_skip | quiet_step (first | fail))
                refine wpQuiet_nil ?_
                intro _ hw'
                obtain ⟨⟨dq, osq⟩, hw''⟩ := hw'
                subst hw''
                have bq0 := below_regrown w2 dq osq
                generalize grow (redrawn w2 dq) osq = wq at bq0 ⊢
                have HS2 := Lib.hid (HS.out.below bq0)
                have HB2 := Lib.hid (HBS.out.trans (bq0.mono HBS.out.size))
                go_wp2
                go_roundw
                case rel => exact ⟨j + 1, z, T, by omega, by go_num, by go_num, HRQ.out.symm, by rw [HOK.out]; rfl, HS2.out, HB2.out⟩
                case measure => simp [intOf]
              · by_cases hneg : pc0 < 0
                · have HOK := Lib.hid (hok.trans (by rw [okP_yes (.inl (by rw [hgd]; exact hneg))]; rfl) : okT part q k (j + 1) n = true)
                  clear hok
                  go_wp2
                  generalize hw2 : wr.setCell ⟨wo.heap.size, z, none⟩ (Value.int .i64 (D : Int)) = w2 at HS HBS gp2 gq ⊢
                  clear hw2 gz gf gp
                  have kp := fun d os => cell_regrown gp2 d os
                  have kq := fun d os => cell_regrown gq d os
                  refine wp_region_quiet_below (by kernel_rfl) (by kernel_rfl) ?_
                  repeat (first | go_big_quiet_skip | quiet_step (first | fail))
                  refine wpQuiet_nil ?_
                  intro _ hw'
                  obtain ⟨⟨dq, osq⟩, hw''⟩ := hw'
                  subst hw''
                  have bq0 := below_regrown w2 dq osq
                  generalize grow (redrawn w2 dq) osq = wq at bq0 ⊢
                  have HS2 := Lib.hid (HS.out.below bq0)
                  have HB2 := Lib.hid (HBS.out.trans (bq0.mono HBS.out.size))
                  go_wp2
                  go_roundw
                  case rel => exact ⟨j + 1, z, T, by omega, by go_num, by go_num, HRQ.out.symm, by first | (rw [HOK.out]; done) | (rw [HOK.out]; simp; omega), HS2.out, HB2.out⟩
                  case measure => simp [intOf]
                · by_cases heq : pc0 = (D : Int)
                  · have t1 : (pc0 == (D : Int)) = true := by simp [heq]
                    have HOK := Lib.hid (hok.trans (by rw [okP_yes (.inr (by rw [hgd]; exact heq))]; rfl) : okT part q k (j + 1) n = true)
                    clear hok heq
                    go_wp2
                    generalize hw2 : wr.setCell ⟨wo.heap.size, z, none⟩ (Value.int .i64 (D : Int)) = w2 at HS HBS gp2 gq ⊢
                    clear hw2 gz gf gp
                    have kp := fun d os => cell_regrown gp2 d os
                    have kq := fun d os => cell_regrown gq d os
                    refine wp_region_quiet_below (by kernel_rfl) (by kernel_rfl) ?_
                    repeat (first | go_big_quiet_skip | quiet_step (first | fail))
                    refine wpQuiet_nil ?_
                    intro _ hw'
                    obtain ⟨⟨dq, osq⟩, hw''⟩ := hw'
                    subst hw''
                    have bq0 := below_regrown w2 dq osq
                    generalize grow (redrawn w2 dq) osq = wq at bq0 ⊢
                    have HS2 := Lib.hid (HS.out.below bq0)
                    have HB2 := Lib.hid (HBS.out.trans (bq0.mono HBS.out.size))
                    go_wp2
                    go_roundw
                    case rel => exact ⟨j + 1, z, T, by omega, by go_num, by go_num, HRQ.out.symm, by first | (rw [HOK.out]; done) | (rw [HOK.out]; simp; omega), HS2.out, HB2.out⟩
                    case measure => simp [intOf]
                  · have t1 : (pc0 == (D : Int)) = false := by simp [heq]
                    have HOK := Lib.hid (hok.trans (by rw [okP_no (by rw [hgd]; exact hneg) (by rw [hgd]; exact heq)]; rfl) : okT part q k (j + 1) n = false)
                    clear hok heq
                    go_wp2
                    generalize hw2 : wr.setCell ⟨wo.heap.size, z, none⟩ (Value.int .i64 (D : Int)) = w2 at HS HBS gp2 gq ⊢
                    clear hw2 gz gf gp
                    have kp := fun d os => cell_regrown gp2 d os
                    have kq := fun d os => cell_regrown gq d os
                    refine wp_region_quiet_below (by kernel_rfl) (by kernel_rfl) ?_
                    repeat (first | go_big_quiet_skip | quiet_step (first | fail))
                    refine wpQuiet_nil ?_
                    intro _ hw'
                    obtain ⟨⟨dq, osq⟩, hw''⟩ := hw'
                    subst hw''
                    have bq0 := below_regrown w2 dq osq
                    generalize grow (redrawn w2 dq) osq = wq at bq0 ⊢
                    have HS2 := Lib.hid (HS.out.below bq0)
                    have HB2 := Lib.hid (HBS.out.trans (bq0.mono HBS.out.size))
                    go_wp2
                    go_roundw
                    case rel => exact ⟨j + 1, z, T, by omega, by go_num, by go_num, HRQ.out.symm, by first | (rw [HOK.out]; done) | (rw [HOK.out]; simp; omega), HS2.out, HB2.out⟩
                    case measure => simp [intOf]
        · obtain rfl : n = N := by omega
          rw [HN.out] at hown
          obtain ⟨oa, on, oc, rfl, _⟩ := hown.form
          go_wp2
          go_ret
          exact ⟨_, rfl, hown, hbr⟩
end Go.Proofs.Ytjbjkfahfjoigaa
namespace Go.Proofs.Ytjbjkfahfjoigaa
open Go.RowKit Go.Sort
def countR (n : Int) (es : List (List Int)) (q : Int) : Int × Int := if askedC n es q true = 0 then (((countL q.toNat n.toNat es : Nat) : Int), (0 : Int)) else (0, askedC n es q true)
theorem codeC_nil (n q : Int) (es : List (List Int)) : codeC n es q [] = askedC n es q true := by
  unfold codeC askedC
  split
  · rfl
  · split
    · rfl
    · simp
end Go.Proofs.Ytjbjkfahfjoigaa
