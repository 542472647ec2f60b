/-
  Which chains are valid: the program's look.
-/
import Derived.Test.YtipkdbicijibpaaChain
namespace Go.Proofs.Ytipkdbicijibpaa
open Go.RowKit Go.Sort
/-- a boxed chain -/
def chObj (s t : Int) (v : Value) : Obj := .cells #[.int .i64 s, .int .i64 t, v] 26
theorem chBox (w : World) (s t : Int) (v : Value) : ChainAt (w.alloc (chObj s t v)) w.heap.size 0 s t v := by
  unfold chObj ChainAt
  refine ⟨by simp, ?_, ?_, ?_⟩ <;> simp [go_sem]
theorem chBelow (w : World) (s t : Int) (v : Value) : Below w.heap.size w (w.alloc (chObj s t v)) := (Below.refl _ _).alloc (Nat.le_refl _) _

set_option maxRecDepth 100000 in
set_option maxHeartbeats 2000000 in
theorem ValidChain_rows {v : Value} {xss : List (List Int)} (s t : Int) (w : World) (ha : SlII w v xss) (hs : inR s 1 6 = true) (ht : inR t 1 60 = true) (hl : (xss.length : Int) = s) :
    Calls Try.prog 45 #[.agg #[.int .i64 s, .int .i64 t, v]] w fun e w' => e = .returned (.bool (chainOk s t xss)) ∧ Below w.heap.size w w' := by
  obtain ⟨a, ca, us, rfl, hca, hca', hul, hrd, hrow⟩ := ha
  unfold maxLen at hca'
  have hn : xss.length ≤ 9223372036854775807 := by omega
  have HU := Lib.hid hul
  have HR := Lib.hid hrow
  have hls : ((xss.length : Int) != s) = false := by simp [hl]
  have hsb := inR_iff.1 hs
  have htb := inR_iff.1 ht
  have hs1 : 1 ≤ s := hsb.1
  have hs6 : s ≤ 6 := hsb.2
  have ht1 : 1 ≤ t := htb.1
  have ht60 : t ≤ 60 := htb.2
  have HL := Lib.hid hl
  have HD : Hid (chainOk s t xss = rowsOk s t xss) := by unfold Hid chainOk; rw [hs, ht, decide_eq_true hl]; rfl
  have HC := Lib.hid (chBox w s t (.slice a xss.length ca))
  have HB := Lib.hid (chBelow w s t (.slice a xss.length ca))
  clear hl hsb htb hca hca' hul hrow
  go_enter Try.func45, Try.ntmps45
  go_wp2_with (go_at_call 70; refine (inRange_any _ _ _ _).mono ?_; rintro e w' ⟨rfl, rfl⟩)
  go_loopw [29] (fun i wr => ∃ k : Nat, k ≤ xss.length ∧ i = .int .i64 k ∧ rowsOk s t (xss.take k) = true ∧ Below (w.heap.size + 1) (w.alloc (chObj s t (.slice a xss.length ca))) wr) (fun i _ => xss.length - (intOf i).toNat)
  case atStart => exact ⟨0, Nat.zero_le _, rfl, by simp [rowsOk], Below.refl _ _⟩
  case round =>
    obtain ⟨k, hk, rfl, hall, hbw⟩ := hrel
    have HA := Lib.hid hall
    clear hall
    obtain ⟨d0, d1, d2, d3⟩ := HC.out.below (by simpa using hbw)
    have hbw0 := HB.out.trans (hbw.mono (by omega))
    by_cases hlt : k < xss.length
    · obtain ⟨x, ba, oa, rfl, hrowk⟩ := SlII.rowAt HU.out hrd HR.out hlt
      generalize hr : xss[k] = r at hrowk
      have HRW := Lib.hid hr
      obtain ⟨ra, rc, rfl, hrc, hrc', hrr⟩ := id hrowk.2.2
      unfold maxLen at hrc'
      have HRK := Lib.hid hrowk
      obtain ⟨g0, ga, _⟩ := HRK.out.below hbw0
      have i1 : (k : Int) < (xss.length : Int) := by omega
      clear hr hrc hrowk
      by_cases hrl : (r.length : Int) = s
      · have hrs : ((r.length : Int) != s) = false := by simp [hrl]
        have hr6 : r.length ≤ 6 := by omega
        have HRL := Lib.hid hrl
        clear hrl
        go_wp2
        go_loopw [5, 40] (fun q i wr => ∃ j : Nat, j ≤ r.length ∧ i = .int .i64 j ∧ q = .int .i64 (r.take j).sum ∧ inAll (r.take j) t = true ∧ Below (w.heap.size + 1) (w.alloc (chObj s t (.slice (some ⟨ba, oa, none⟩) xss.length ca))) wr) (fun _ i _ => r.length - (intOf i).toNat)
        case atStart => exact ⟨0, Nat.zero_le _, rfl, rfl, by simp [inAll], hbw⟩
        case round =>
          clear d1 d2 d3 ga hbw hbw0
          obtain ⟨j, hj, rfl, rfl, hin, hbr⟩ := hrel
          have hsum := inAll_sum ht60 hin
          have hlen : (r.take j).length ≤ 6 := by simp; omega
          have hsb0 : 0 ≤ (r.take j).sum := hsum.1
          have hsb1 : (r.take j).sum ≤ 1000 := by omega
          have HIN := Lib.hid hin
          clear hin hsum
          obtain ⟨d0, d1, d2, d3⟩ := HC.out.below (by simpa using hbr)
          have hbr0 := HB.out.trans (hbr.mono (by omega))
          obtain ⟨g0, ga, _⟩ := HRK.out.below hbr0
          by_cases hjt : j < r.length
          · obtain ⟨rb, ro, rfl, gr⟩ := (hrr.below hbr0).one (i64s_get hjt)
            have i3 : (j : Int) < (r.length : Int) := by omega
            by_cases hx : inR r[j] 0 t = true
            · have hxb := inR_iff.1 hx
              have hx0 : 0 ≤ r[j] := hxb.1
              have hx1 : r[j] ≤ 60 := by omega
              clear hxb
              go_wp2_with (go_at_call 70; refine (inRange_any _ _ _ _).mono ?_; rintro e w' ⟨rfl, rfl⟩)
              go_roundw
              case rel => exact ⟨j + 1, by omega, by go_num, vi (sum_succ hjt).symm, inAll_succ HIN.out hjt hx, hbr⟩
              case measure => simp [intOf]; omega
            · have hx' : inR r[j] 0 t = false := by simpa using hx
              go_wp2_with (go_at_call 70; refine (inRange_any _ _ _ _).mono ?_; rintro e w' ⟨rfl, rfl⟩)
              go_ret
              exact ⟨rbf (by rw [HD.out]; exact rowsOk_false hlt (by rw [HRW.out]; exact rowOk_in (inAll_false hjt hx'))), hbr0⟩
          · obtain rfl : j = r.length := by omega
            have hin2 := HIN.out
            rw [List.take_length] at hin2 hsb0 hsb1
            have HI2 := Lib.hid hin2
            clear hin2 hjt hj hlen HIN
            by_cases hst : r.sum = t
            · have hst' : (r.sum != t) = false := by simp [hst]
              have HST := Lib.hid hst
              clear hst
              go_wp2
              go_roundw
              case rel => exact ⟨k + 1, by omega, by go_num, rowsOk_succ HA.out hlt (by rw [HRW.out]; exact rowOk_yes HRL.out HI2.out HST.out), hbr⟩
              case measure => simp [intOf]; omega
            · have hst' : (r.sum != t) = true := by simp [hst]
              have HST := Lib.hid hst
              clear hst
              go_wp2
              go_ret
              exact ⟨rbf (by rw [HD.out]; exact rowsOk_false hlt (by rw [HRW.out]; exact rowOk_sum HST.out)), hbr0⟩
      · have hrs : ((r.length : Int) != s) = true := by simp [hrl]
        have HRL := Lib.hid hrl
        clear hrl
        go_wp2
        go_ret
        exact ⟨rbf (by rw [HD.out]; exact rowsOk_false hlt (by rw [HRW.out]; exact rowOk_len HRL.out)), hbw0⟩
    · have ht := HA.out
      obtain rfl : k = xss.length := by omega
      go_wp2
      go_ret
      exact ⟨rbt (by rw [HD.out]; rw [List.take_of_length_le (Nat.le_refl _)] at ht; exact ht), hbw0⟩

set_option maxHeartbeats 400000 in
theorem ValidChain_any {v : Value} {xss : List (List Int)} (s t : Int) (w : World) (ha : SlII w v xss) :
    Calls Try.prog 45 #[.agg #[.int .i64 s, .int .i64 t, v]] w fun e w' => e = .returned (.bool (chainOk s t xss)) ∧ Below w.heap.size w w' := by
  by_cases hs : inR s 1 6 = true
  · by_cases ht : inR t 1 60 = true
    · by_cases hl : (xss.length : Int) = s
      · exact ValidChain_rows s t w ha hs ht hl
      · have hls : ((xss.length : Int) != s) = true := by simp [hl]
        have HD : Hid (chainOk s t xss = false) := by unfold Hid chainOk; simp [hl]
        obtain ⟨a, ca, us, rfl, _, _, _, _, _⟩ := ha
        have HL := Lib.hid hl
        clear hl
        go_enter Try.func45, Try.ntmps45
        go_wp2_with (go_at_call 70; refine (inRange_any _ _ _ _).mono ?_; rintro e w' ⟨rfl, rfl⟩)
        go_ret
        exact ⟨rbf HD.out, chBelow _ _ _ _⟩
    · have ht' : inR t 1 60 = false := by simpa using ht
      have HD : Hid (chainOk s t xss = false) := by unfold Hid chainOk; simp [ht']
      obtain ⟨a, ca, us, rfl, _, _, _, _, _⟩ := ha
      clear ht
      go_enter Try.func45, Try.ntmps45
      go_wp2_with (go_at_call 70; refine (inRange_any _ _ _ _).mono ?_; rintro e w' ⟨rfl, rfl⟩)
      go_ret
      exact ⟨rbf HD.out, chBelow _ _ _ _⟩
  · have hs' : inR s 1 6 = false := by simpa using hs
    have HD : Hid (chainOk s t xss = false) := by unfold Hid chainOk; simp [hs']
    obtain ⟨a, ca, us, rfl, _, _, _, _, _⟩ := ha
    clear hs
    go_enter Try.func45, Try.ntmps45
    go_wp2_with (go_at_call 70; refine (inRange_any _ _ _ _).mono ?_; rintro e w' ⟨rfl, rfl⟩)
    go_ret
    exact ⟨rbf HD.out, chBelow _ _ _ _⟩
end Go.Proofs.Ytipkdbicijibpaa
