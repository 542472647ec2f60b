/-
  Free colours of a node, both sides.
-/
import Derived.Test.YtmhpbkckmjdojaaIndep
import Derived.Test.YtmhpbkckmjdojaaSrFree
import Derived.Test.YtmhpbkckmjdojaaStep
import Derived.Test.YtmhpbkckmjdojaaDeckAt
namespace Go.Proofs.Ytmhpbkckmjdojaa
open Go.RowKit Go.Sort
def neighE (node : Int) (e : List Int) : List Int := if node = e.getD 0 0 then [e.getD 1 0] else if node = e.getD 1 0 then [e.getD 0 0] else []
def neighL (es : List (List Int)) (node : Int) : List Int := es.flatMap (neighE node)
def takenB (es : List (List Int)) (cs : List Int) (node c : Int) : Bool := (neighL es node).any fun o => decide (cs.getD o.toNat 0 = c)
def freeL (es : List (List Int)) (cs : List Int) (node : Int) (k : Nat) : List Int := (upTo k).filter fun c => !takenB es cs node c
theorem freeL_yes {es : List (List Int)} {cs : List Int} {node : Int} {k : Nat} (h : takenB es cs node k = false) : freeL es cs node (k + 1) = freeL es cs node k ++ [(k : Int)] := by
  unfold freeL; rw [upTo_succ, List.filter_append]; simp [h]
theorem freeL_no {es : List (List Int)} {cs : List Int} {node : Int} {k : Nat} (h : takenB es cs node k = true) : freeL es cs node (k + 1) = freeL es cs node k := by
  unfold freeL; rw [upTo_succ, List.filter_append]; simp [h]
theorem freeL_length (es : List (List Int)) (cs : List Int) (node : Int) (k : Nat) : (freeL es cs node k).length ≤ k := by
  unfold freeL; refine Nat.le_trans (List.length_filter_le _ _) ?_; rw [upTo_length]; exact Nat.le_refl _
theorem neighE_len (node : Int) (e : List Int) : (neighE node e).length ≤ 1 := by
  unfold neighE
  split
  · simp
  · split <;> simp
theorem flat_len {l : List (List Int)} {f : List Int → List Int} (h : ∀ x, (f x).length ≤ 1) : (l.flatMap f).length ≤ l.length := by
  induction l with
  | nil => simp
  | cons x r ih => rw [List.flatMap_cons, List.length_append, List.length_cons]; have := h x; omega
theorem flat_take_succ {l : List (List Int)} {f : List Int → List Int} {k : Nat} (h : k < l.length) : (l.take (k + 1)).flatMap f = (l.take k).flatMap f ++ f l[k] := by
  rw [List.take_succ_eq_append_getElem h, List.flatMap_append]; simp
theorem neighE_two (node : Int) (p q : Nat) : neighE node [(p : Int), (q : Int)] = if node = (p : Int) then [(q : Int)] else if node = (q : Int) then [(p : Int)] else [] := rfl
theorem neighE_mem {node o : Int} {p q : Nat} (hpq : p < q) : o ∈ neighE node [(p : Int), (q : Int)] ↔ nearE node o [(p : Int), (q : Int)] = true := by
  rw [neighE_two, nearE_two]
  split
  · rename_i h; subst h; simp; constructor
    · intro h; left; exact h.symm
    · rintro (h | ⟨h1, h2⟩)
      · exact h.symm
      · omega
  · rename_i h
    split
    · rename_i h2; subst h2; simp; constructor
      · intro h3; right; exact h3.symm
      · rintro (⟨h3, _⟩ | h3)
        · omega
        · exact h3.symm
    · rename_i h2
      simp
      omega
theorem neigh_in {m : Nat} {es : List (List Int)} (hE : EdgesB m es) {node o : Int} (h : o ∈ neighL es node) : ∃ a : Nat, o = (a : Int) ∧ a < m := by
  unfold neighL at h
  rw [List.mem_flatMap] at h
  obtain ⟨e, he, ho⟩ := h
  obtain ⟨p, q, rfl, hpq, hq⟩ := hE e he
  rw [neighE_two] at ho
  split at ho
  · simp at ho; exact ⟨q, ho, hq⟩
  · split at ho
    · simp at ho; exact ⟨p, ho, by omega⟩
    · simp at ho
/-- as the reference has it -/
def freeS (es : List (List Int)) (cs : List Int) (node c : Int) (k : Nat) : Bool := (List.range k).all fun i => (!decide (cs.getD i 0 = c)) || !nearB es node (i : Int)
theorem free_law {m : Nat} {es : List (List Int)} {cs : List Int} {node c : Int} (hE : EdgesB m es) : freeS es cs node c m = !takenB es cs node c := by
  rw [Bool.eq_iff_iff]
  unfold freeS takenB
  simp only [List.all_eq_true, List.mem_range, Bool.or_eq_true, Bool.not_eq_true', decide_eq_false_iff_not, List.any_eq_false, decide_eq_true_eq]
  constructor
  · intro h o ho hc
    obtain ⟨a, rfl, ha⟩ := neigh_in hE ho
    rw [Int.toNat_natCast] at hc
    rcases h a ha with h1 | h1
    · exact h1 hc
    · unfold nearB at h1
      rw [List.any_eq_false] at h1
      unfold neighL at ho
      rw [List.mem_flatMap] at ho
      obtain ⟨e, he, ho⟩ := ho
      obtain ⟨p, q, rfl, hpq, hq⟩ := hE e he
      exact h1 _ he ((neighE_mem hpq).1 ho)
  · intro h i hi
    by_cases hc : cs.getD i 0 = c
    · right
      unfold nearB
      rw [List.any_eq_false]
      intro e he hn
      obtain ⟨p, q, rfl, hpq, hq⟩ := hE e he
      have ho : (i : Int) ∈ neighL es node := by
        unfold neighL
        rw [List.mem_flatMap]
        exact ⟨_, he, (neighE_mem hpq).2 hn⟩
      exact h _ ho (by rw [Int.toNat_natCast]; exact hc)
    · left; exact hc
theorem CellsAt.belowB {w w' : World} {b B : Nat} {vs : List Value} (h : CellsAt w b vs) (hB : b < B) (hb : Below B w w') : CellsAt w' b vs :=
  ⟨Nat.lt_of_lt_of_le h.1 hb.size, fun i u hu => by rw [hb.cell (p := ⟨b, i, none⟩) hB]; exact h.2 i u hu⟩
set_option maxHeartbeats 2000000 in
theorem neighbours_any {v : Value} {es : List (List Int)} (m : Nat) (n node : Int) (w : World) (ha : SlII w v es) (hE : EdgesB m es) (hl : es.length ≤ 100) :
    Calls Try.prog 69 #[.agg #[.int .i64 n, v], .int .i64 node] w fun e w' => ∃ r, e = .returned r ∧ OwnI w' w.heap.size r (neighL es node) ∧ Below w.heap.size w w' := by
  obtain ⟨a, ca, us, rfl, hca, hca', hul, hrd, hrow⟩ := ha
  have HG := Lib.hid (fun W (h : Below w.heap.size w W) => And.intro (hrd.below h) (fun i hi u hu => (hrow i hi u hu).below h))
  have HU := Lib.hid hul
  have HE := Lib.hid hE
  have bx : Below w.heap.size w ((w.alloc (.cells #[.int .i64 n, .slice a es.length ca] 29)).alloc (.cells #[] 2)) := ((Below.refl _ _).alloc (Nat.le_refl _) _).alloc (by simp) _
  have own0 := OwnI.empty (w.alloc (.cells #[.int .i64 n, .slice a es.length ca] 29)) (base := w.heap.size) (by simp)
  simp only [show (w.alloc (.cells #[.int .i64 n, .slice a es.length ca] 29)).heap.size = w.heap.size + 1 from by simp] at own0
  have hfl := fun k => flat_len (l := es.take k) (f := neighE node) (neighE_len node)
  have HFL := Lib.hid hfl
  unfold maxLen at hca'
  clear hul hrd hrow hE hfl
  go_enter Try.func69, Try.ntmps69
  go_wp2
  go_loopw [5, 7, 12] (fun v _ i wr => ∃ k : Nat, k ≤ es.length ∧ i = .int .i64 k ∧ OwnI wr w.heap.size v ((es.take k).flatMap (neighE node)) ∧ Below w.heap.size w wr) (fun _ _ i _ => es.length - (intOf i).toNat)
  case atStart => exact ⟨0, Nat.zero_le _, rfl, own0, bx⟩
  case round =>
    clear own0 bx
    obtain ⟨k, hk, rfl, hown, hbr⟩ := hrel
    by_cases hlt : k < es.length
    · obtain ⟨z, bb, off, rfl, gc, sx⟩ := SlII.row HU.out (HG.out _ hbr).1 (HG.out _ hbr).2 hlt
      have i1 : (k : Int) < (es.length : Int) := by omega
      obtain ⟨p, q, he, hpq, hqm⟩ := HE.out _ (List.getElem_mem hlt)
      have hft := flat_take_succ (f := neighE node) hlt
      rw [he, neighE_two] at hft
      rw [he] at sx
      obtain ⟨ua, uc, rfl, _, _, ur⟩ := sx
      obtain ⟨eb, eo, rfl, g0⟩ := ur.one (i64s_get (j := 0) (by simp))
      obtain ⟨eb', eo', he', g1⟩ := ur.one (i64s_get (j := 1) (by simp))
      simp only [Option.some.injEq, Addr.mk.injEq] at he'
      obtain ⟨rfl, rfl, _⟩ := he'
      simp only [Nat.add_zero, List.getElem_cons_zero, List.getElem_cons_succ] at g0 g1
      have j1 : (1 : Int) < ((([(p : Int), (q : Int)] : List Int).length : Nat) : Int) := by simp
      have j0 : (0 : Int) < ((([(p : Int), (q : Int)] : List Int).length : Nat) : Int) := by simp
      have hln : ((es.take k).flatMap (neighE node)).length < 16777216 := by have := HFL.out k; rw [List.length_take] at this; omega
      generalize (es.take k).flatMap (neighE node) = l at hown hft hln
      have hsz := hbr.size
      have HFT := Lib.hid hft
      clear he hpq hqm hft
      by_cases h1 : node = (p : Int)
      · have t1 : (node == (p : Int)) = true := by simp [h1]
        have H1 := Lib.hid h1
        clear h1
        go_wp2_with (at_builtin; refine append_i64 _ _ _ _ rfl rfl rfl hown rfl hln hsz ?_)
        intro v' w1 hown1 hb1 hsz1
        have hb2 := (hbr.alloc hsz _).trans hb1
        clear hown hb1
        go_wp2
        go_roundw
        case rel => exact ⟨k + 1, by omega, by go_num, by rw [HFT.out, if_pos H1.out]; exact hown1, hb2⟩
        case measure => simp [intOf]; omega
      · have t1 : (node == (p : Int)) = false := by simp [h1]
        have H1 := Lib.hid h1
        clear h1
        by_cases h2 : node = (q : Int)
        · have t2 : (node == (q : Int)) = true := by simp [h2]
          have H2 := Lib.hid h2
          clear h2
          go_wp2_with (at_builtin; refine append_i64 _ _ _ _ rfl rfl rfl hown rfl hln hsz ?_)
          intro v' w1 hown1 hb1 hsz1
          have hb2 := (hbr.alloc hsz _).trans hb1
          clear hown hb1
          go_wp2
          go_roundw
          case rel => exact ⟨k + 1, by omega, by go_num, by rw [HFT.out, if_neg H1.out, if_pos H2.out]; exact hown1, hb2⟩
          case measure => simp [intOf]; omega
        · have t2 : (node == (q : Int)) = false := by simp [h2]
          have H2 := Lib.hid h2
          clear h2
          go_wp2
          go_roundw
          case rel => exact ⟨k + 1, by omega, by go_num, by rw [HFT.out, if_neg H1.out, if_neg H2.out, List.append_nil]; exact hown, hbr⟩
          case measure => simp [intOf]; omega
    · obtain rfl : k = es.length := by omega
      rw [List.take_length] at hown
      go_wp2
      go_ret
      exact ⟨_, rfl, hown, hbr⟩
end Go.Proofs.Ytmhpbkckmjdojaa
