/-
  One step by a draw: the reference's and the program's.
-/
import Derived.Test.YtipkdbicijibpaaChainImpl
namespace Go.Proofs.Ytipkdbicijibpaa
open Go.RowKit Go.Sort
/-- from index k on, with sum q so far -/
def toFrom : List Int → Int → Int → Nat → Option Nat
  | [], _, _, _ => none
  | x :: r, d, q, k => if d < q + x then some k else toFrom r d (q + x) (k + 1)
def toOf (r : List Int) (d : Int) : Option Nat := toFrom r d 0 0
theorem toFrom_lt : ∀ (r : List Int) (d q : Int) (k : Nat), d < q + r.sum → r ≠ [] → (∀ x ∈ r, 0 ≤ x) → ∃ i, toFrom r d q k = some i ∧ k ≤ i ∧ i < k + r.length
  | [], _, _, _, _, h, _ => absurd rfl h
  | x :: r, d, q, k, hd, _, hx => by
    unfold toFrom
    by_cases h : d < q + x
    · exact ⟨k, by rw [if_pos h], Nat.le_refl _, by simp⟩
    · rw [if_neg h]
      rw [List.sum_cons] at hd
      cases r with
      | nil => simp at hd; omega
      | cons y r =>
        obtain ⟨i, h1, h2, h3⟩ := toFrom_lt (y :: r) d (q + x) (k + 1) (by omega) (by simp) (fun z hz => hx z (by simp [hz]))
        exact ⟨i, h1, by omega, by simp at h3 ⊢; omega⟩
theorem toOf_step {r : List Int} {d : Int} {j : Nat} (hj : j < r.length) : toFrom (r.drop j) d (r.take j).sum j = if d < (r.take j).sum + r[j] then some j else toFrom (r.drop (j + 1)) d (r.take (j + 1)).sum (j + 1) := by
  rw [List.drop_eq_getElem_cons hj]
  have : (r.take (j + 1)).sum = (r.take j).sum + r[j] := sum_succ hj
  rw [this]
  rfl
/-- the row is right for a total -/
def RowB (r : List Int) : Prop := r.length ≤ 6 ∧ ∀ x ∈ r, 0 ≤ x ∧ x ≤ 60
theorem RowB.sum {r : List Int} (h : RowB r) (j : Nat) : 0 ≤ (r.take j).sum ∧ (r.take j).sum ≤ 1000 := by
  have hin : inAll (r.take j) 60 = true := by
    unfold inAll
    rw [List.all_eq_true]
    intro x hx
    have := h.2 x (List.mem_of_mem_take hx)
    exact inR_iff.2 this
  have h2 := inAll_sum (t := 60) (by omega) hin
  have h3 : (r.take j).length ≤ 6 := by rw [List.length_take]; have := h.1; omega
  omega
theorem chainOk_parts0 {s t : Int} {xss : List (List Int)} (h : chainOk s t xss = true) : (1 ≤ s ∧ s ≤ 6) ∧ (1 ≤ t ∧ t ≤ 60) ∧ (xss.length : Int) = s ∧ rowsOk s t xss = true := by
  unfold chainOk at h
  rw [Bool.and_eq_true, Bool.and_eq_true, Bool.and_eq_true] at h
  exact ⟨inR_iff.1 h.1, inR_iff.1 h.2.1, of_decide_eq_true h.2.2.1, h.2.2.2⟩
theorem rowB_of {s t : Int} {xss : List (List Int)} (h : chainOk s t xss = true) {k : Nat} (hk : k < xss.length) : RowB xss[k] ∧ (xss[k].length : Int) = s ∧ xss[k].sum = t := by
  unfold chainOk at h
  rw [Bool.and_eq_true, Bool.and_eq_true, Bool.and_eq_true] at h
  have hs := inR_iff.1 h.1
  have ht := inR_iff.1 h.2.1
  have hr := h.2.2.2
  unfold rowsOk at hr
  rw [List.all_eq_true] at hr
  have := hr _ (List.getElem_mem hk)
  unfold rowOk at this
  rw [Bool.and_eq_true, Bool.and_eq_true] at this
  have hl := of_decide_eq_true this.1
  have ha := this.2.1
  unfold inAll at ha
  rw [List.all_eq_true] at ha
  refine ⟨⟨by omega, fun x hx => ?_⟩, hl, of_decide_eq_true this.2.2⟩
  have := inR_iff.1 (ha x hx)
  omega

set_option maxHeartbeats 1000000 in
theorem l01To_any {v : Value} {xss : List (List Int)} (b o : Nat) (s t d : Int) (k : Nat) (w : World) (hc : ChainAt w b o s t v) (ha : SlII w v xss) (hk : k < xss.length) (hB : RowB xss[k]) (hls : (xss[k].length : Int) = s) :
    Calls Try.prog 53 #[.pointer (some ⟨b, o, none⟩), .int .i64 k, .int .i64 d] w fun e w' => e = .returned (.int .i64 (((toOf xss[k] d).map Int.ofNat).getD 0)) ∧ w = w' := by
  obtain ⟨a, ca, us, rfl, hca, hca', hul, hrd, hrow⟩ := ha
  obtain ⟨x, ba, oa, rfl, hrowk⟩ := SlII.rowAt hul hrd hrow hk
  generalize hr : xss[k] = r at hrowk hB hls
  obtain ⟨g0, ga, ra, rc, rfl, hrc, hrc', hrr⟩ := hrowk
  obtain ⟨c00, c0, _, c2⟩ := hc
  unfold maxLen at hca' hrc'
  have i1 : (k : Int) < (xss.length : Int) := by omega
  have hr6 : r.length ≤ 6 := hB.1
  have HB := Lib.hid hB
  have HL := Lib.hid hls
  clear hr hul hrd hrow hca hca' hrc hB hls
  go_enter Try.func53, Try.ntmps53
  go_wp2
  go_loopw [7, 8] (fun q i wr => ∃ j : Nat, j ≤ r.length ∧ i = .int .i64 j ∧ q = .int .i64 (r.take j).sum ∧ toOf r d = toFrom (r.drop j) d (r.take j).sum j ∧ wr = w) (fun _ i _ => r.length - (intOf i).toNat)
  case atStart => exact ⟨0, Nat.zero_le _, rfl, rfl, rfl, rfl⟩
  case round =>
    obtain ⟨j, hj, rfl, rfl, hto, rfl⟩ := hrel
    have HT := Lib.hid hto
    clear hto
    have hs0 := (HB.out.sum j).1
    have hs1 := (HB.out.sum j).2
    have hls := HL.out
    by_cases hjt : j < r.length
    · have hjs : (j : Int) < s := by omega
      obtain ⟨rb, ro, rfl, gr⟩ := hrr.one (i64s_get hjt)
      have hx := HB.out.2 r[j] (List.getElem_mem hjt)
      have hx0 : 0 ≤ r[j] := hx.1
      have hx1 : r[j] ≤ 60 := hx.2
      have hst := toOf_step (d := d) hjt
      have HST := Lib.hid hst
      have i3 : (j : Int) < (r.length : Int) := by omega
      clear hls hx hst
      by_cases hd : d < (r.take j).sum + r[j]
      · go_wp2
        go_ret
        exact ⟨ri (by rw [HT.out, HST.out, if_pos hd]; rfl), rfl⟩
      · go_wp2
        go_roundw
        case rel => exact ⟨j + 1, by omega, by go_num, vi (sum_succ hjt).symm, by rw [HT.out, HST.out, if_neg (by omega)], trivial⟩
        case measure => simp [intOf]; omega
    · have hjs : ¬ (j : Int) < s := by omega
      obtain rfl : j = r.length := by omega
      clear hls
      go_wp2
      go_ret
      exact ⟨ri (by rw [HT.out]; simp [toFrom]), rfl⟩

set_option maxHeartbeats 1000000 in
theorem stepByDraw_any {v : Value} {xss : List (List Int)} (s t d : Int) (k : Nat) (w : World) (ha : SlII w v xss) (hk : k < xss.length) (hB : RowB xss[k]) :
    Calls Try.prog 48 #[.agg #[.int .i64 s, .int .i64 t, v], .int .i64 k, .int .i64 d] w fun e w' => e = .returned (.int .i64 (((toOf xss[k] d).map Int.ofNat).getD (-1))) ∧ Below w.heap.size w w' := by
  obtain ⟨a, ca, us, rfl, hca, hca', hul, hrd, hrow⟩ := ha
  obtain ⟨x, ba, oa, rfl, hrowk⟩ := SlII.rowAt hul hrd hrow hk
  generalize hr : xss[k] = r at hrowk hB
  obtain ⟨ra, rc, rfl, hrc, hrc', _⟩ := id hrowk.2.2
  have bb : Below w.heap.size w (w.alloc (chObj s t (.slice (some ⟨ba, oa, none⟩) xss.length ca))) := chBelow _ _ _ _
  obtain ⟨g0, ga, ra', rc', he, _, _, hrr⟩ := hrowk.below bb
  simp at he
  obtain ⟨rfl, rfl⟩ := he
  unfold maxLen at hca' hrc'
  have i1 : (k : Int) < (xss.length : Int) := by omega
  have hr6 : r.length ≤ 6 := hB.1
  have HB := Lib.hid hB
  have HBB := Lib.hid bb
  clear hr hul hrd hrow hca hca' hrc hB hrowk bb
  have GA := Lib.hid ga
  go_enter Try.func48, Try.ntmps48
  unfold chObj at ga
  go_wp2
  clear ga
  go_loopw [7, 16] (fun q i wr => ∃ j : Nat, j ≤ r.length ∧ i = .int .i64 j ∧ q = .int .i64 (r.take j).sum ∧ toOf r d = toFrom (r.drop j) d (r.take j).sum j ∧ wr = w.alloc (chObj s t (.slice (some ⟨ba, oa, none⟩) xss.length ca))) (fun _ i _ => r.length - (intOf i).toNat)
  case atStart => exact ⟨0, Nat.zero_le _, rfl, rfl, rfl, rfl⟩
  case round =>
    obtain ⟨j, hj, rfl, rfl, hto, rfl⟩ := hrel
    have HT := Lib.hid hto
    clear hto
    have hs0 := (HB.out.sum j).1
    have hs1 := (HB.out.sum j).2
    by_cases hjt : j < r.length
    · obtain ⟨rb, ro, rfl, gr⟩ := hrr.one (i64s_get hjt)
      have hx := HB.out.2 r[j] (List.getElem_mem hjt)
      have hx0 : 0 ≤ r[j] := hx.1
      have hx1 : r[j] ≤ 60 := hx.2
      have hst := toOf_step (d := d) hjt
      have HST := Lib.hid hst
      have i3 : (j : Int) < (r.length : Int) := by omega
      clear hx hst
      by_cases hd : d < (r.take j).sum + r[j]
      · go_wp2
        go_ret
        exact ⟨ri (by rw [HT.out, HST.out, if_pos hd]; rfl), HBB.out⟩
      · go_wp2
        go_roundw
        case rel => exact ⟨j + 1, by omega, by go_num, vi (sum_succ hjt).symm, by rw [HT.out, HST.out, if_neg (by omega)], trivial⟩
        case measure => simp [intOf]; omega
    · obtain rfl : j = r.length := by omega
      go_wp2
      go_ret
      exact ⟨ri (by rw [HT.out]; simp [toFrom]), HBB.out⟩

def upTo (n : Nat) : List Int := (List.range n).map fun (i : Nat) => (i : Int)
theorem upTo_succ (n : Nat) : upTo (n + 1) = upTo n ++ [(n : Int)] := by simp [upTo, List.range_succ]
theorem upTo_length (n : Nat) : (upTo n).length = n := by simp [upTo]

set_option maxHeartbeats 400000 in
theorem everyState_any (n : Nat) (w : World) (hn : n ≤ 1000) :
    Calls Try.prog 56 #[.int .i64 n] w fun e w' => ∃ v, e = .returned v ∧ OwnI w' w.heap.size v (upTo n) ∧ Below w.heap.size w w' := by
  go_enter Try.func56, Try.ntmps56
  go_wp2
  go_loopw [3, 7] (fun v i wr => ∃ k : Nat, k ≤ n ∧ i = .int .i64 k ∧ OwnI wr w.heap.size v (upTo k) ∧ Below w.heap.size w wr) (fun _ i _ => n - (intOf i).toNat)
  case atStart => exact ⟨0, Nat.zero_le _, rfl, OwnI.empty _ (Nat.le_refl _), (Below.refl _ _).alloc (Nat.le_refl _) _⟩
  case round =>
    obtain ⟨k, hk, rfl, hown, hbw⟩ := hrel
    by_cases hlt : k < n
    · have hsz := hbw.size
      have hl := upTo_length k
      go_wp2_with (at_builtin; refine append_i64 _ _ _ _ rfl rfl rfl hown rfl (by omega) (by omega) ?_)
      intro v' w1 hown1 hb1 hsz1
      rw [← upTo_succ] at hown1
      have hb2 := (hbw.alloc hsz _).trans hb1
      clear hown hb1
      go_wp2
      go_roundw
      case rel => exact ⟨k + 1, by omega, by go_num, hown1, hb2⟩
      case measure => simp [intOf]; omega
    · obtain rfl : k = n := by omega
      go_wp2
      go_ret
      exact ⟨_, rfl, hown, hbw⟩
end Go.Proofs.Ytipkdbicijibpaa
