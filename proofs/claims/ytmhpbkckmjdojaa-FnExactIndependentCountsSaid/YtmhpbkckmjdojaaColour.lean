/-
  The reference's l08Ok, l08List, l08Asked, l08Proper.
-/
import Derived.Test.YtmhpbkckmjdojaaColourL
import Derived.Test.YtmhpbkckmjdojaaStepLaw
namespace Go.Proofs.Ytmhpbkckmjdojaa
open Go.RowKit Go.Sort
set_option maxRecDepth 100000 in
set_option maxHeartbeats 4000000 in
theorem l08Ok_any {v : Value} {es : List (List Int)} (b o : Nat) (n : Int) (w : World) (hc : GraphAt w b o n v) (ha : SlII w v es) :
    Calls Try.prog 30 #[.pointer (some ⟨b, o, none⟩)] w fun e w' => e = .returned (.bool (graphOk n es)) ∧ Below w.heap.size w w' := by
  obtain ⟨a, ca, us, rfl, hca, hca', hul, hrd, hrow⟩ := ha
  have HG := Lib.hid (fun W (h : Below w.heap.size w W) => And.intro (hrd.below h) (fun i hi u hu => (hrow i hi u hu).below h))
  have HC := Lib.hid (fun W (h : Below w.heap.size w W) => hc.below h)
  have HU := Lib.hid hul
  unfold maxLen at hca'
  obtain ⟨zb, c0, c1⟩ := hc
  clear hul hrd hrow
  generalize hq : inR n 1 5 = q
  have HQ := Lib.hid hq
  cases q
  · clear hq
    go_enter Try.func30, Try.ntmps30
    go_wp2_with (go_at_call 36; refine (l00In_any _ _ _ _).mono ?_; rintro e w' ⟨rfl, rfl⟩; rw [HQ.out])
    go_ret
    exact ⟨rb (by unfold graphOk; rw [HQ.out]; rfl), Below.refl _ _⟩
  · have hn := inR_iff.1 hq
    have hw : IntKind.i64.wrap (n - 1) = n - 1 := IntWalk.i64_in _ (by omega)
    have HGO : Hid (graphOk n es = okN (n - 1) es es.length) := by unfold Hid graphOk; rw [hq, hw]; rfl
    obtain ⟨hn1, hn2⟩ := hn
    clear hq hw
    go_enter Try.func30, Try.ntmps30
    go_wp2_with (go_at_call 36; refine (l00In_any _ _ _ _).mono ?_; rintro e w' ⟨rfl, rfl⟩; rw [HQ.out])
    go_loopw [3, 4] (fun i _ wr => ∃ k : Nat, k ≤ es.length ∧ i = .int .i64 k ∧ Hid (okN (n - 1) es k = true) ∧ Below w.heap.size w wr) (fun i _ _ => es.length - (intOf i).toNat)
    case atStart => exact ⟨0, Nat.zero_le _, rfl, rfl, Below.refl _ _⟩
    case round =>
      clear c0 c1 zb
      obtain ⟨k, hk, rfl, hok, hbr⟩ := hrel
      obtain ⟨zb, c0, c1⟩ := HC.out _ hbr
      by_cases hlt : k < es.length
      · obtain ⟨x, bb, off, rfl, gc, sx⟩ := SlII.row HU.out (HG.out _ hbr).1 (HG.out _ hbr).2 hlt
        have i1 : (k : Int) < (es.length : Int) := by omega
        have NO : stepW (n - 1) es k = false → graphOk n es = false := fun h => by rw [HGO.out, okN_false h hlt]
        have HNO := Lib.hid NO
        have hes : stepW (n - 1) es k = (edgeW (n - 1) es[k] && (decide (k = 0) || lessL (es.getD (k - 1) []) es[k])) := by unfold stepW; rw [getD_at hlt]
        have HES := Lib.hid hes
        have SX := Lib.hid (fun W (h : Below wr.heap.size wr W) => sx.below h)
        obtain ⟨ea, ec, rfl, _, _, _⟩ := id sx
        have htwo := riseN_two (hi := n - 1) (e := es[k]) (by omega) (by omega)
        clear hes NO sx
        by_cases hl : es[k].length = 2
        · have ht : ((es[k].length : Int) != 2) = false := by rw [hl]; rfl
          rw [hl] at htwo
          generalize hr : riseN 0 (n - 1) es[k] 2 = r at htwo
          have HR : Hid (riseN 0 (n - 1) es[k] es[k].length = r) := by unfold Hid; rw [hl]; exact hr
          have HE : Hid (edgeW (n - 1) es[k] = r) := by unfold Hid; rw [← htwo]; simp
          clear hl hr htwo
          go_wp2_with fail
          refine (l00Rises_any 0 (n - 1) _ (SX.out _ (Below.refl _ _))).mono ?_
          rintro e w2 ⟨rfl, b2⟩
          rw [HR.out]
          have hb2 := hbr.trans (b2.mono hbr.size)
          cases r
          · go_wp2
            go_ret
            exact ⟨rb (HNO.out (by rw [HES.out, HE.out]; rfl)).symm, hb2⟩
          · obtain ⟨_, d0, d1⟩ := HC.out _ hb2
            by_cases hk0 : k = 0
            · have hk0' : decide (0 < k) = false := by simp; omega
              have HK0 := Lib.hid hk0
              clear hk0
              go_wp2
              go_roundw
              case rel => exact ⟨k + 1, by omega, by go_num, by unfold Hid okN; rw [hok.out, HES.out, HE.out]; simp [HK0.out], hb2⟩
              case measure => simp [intOf]; omega
            · obtain ⟨m, hm⟩ : ∃ m, k = m + 1 := ⟨k - 1, by omega⟩
              have hkp : (0 : Int) < (k : Int) := by omega
              have hml : m < es.length := by omega
              have i3 : (m : Int) = (k : Int) - 1 := by omega
              have hk1 : k - 1 = m := by omega
              obtain ⟨x', b', off', he', gc', sx'⟩ := SlII.row HU.out (HG.out _ hb2).1 (HG.out _ hb2).2 hml
              simp only [Option.some.injEq, Addr.mk.injEq] at he'
              obtain ⟨rfl, rfl, _⟩ := he'
              obtain ⟨pa, pc, rfl, _⟩ := id sx'
              have SP := Lib.hid sx'
              have hst : stepW (n - 1) es k = lessL es[m] es[k] := by
                rw [HES.out, HE.out, hk1, getD_at hml]
                simp [hk0]
              generalize hl3 : lessL es[m] es[k] = l3 at hst
              have HST := Lib.hid hst
              have HL3 := Lib.hid hl3
              have gc2 : w2.cell? ⟨bb, off + (k - 1), none⟩ = some (.slice pa es[m].length pc) := by rw [hk1]; exact gc'
              have HK0 := Lib.hid hk0
              have HM := Lib.hid hm
              clear hst hl3 sx' hk0 hm i3 hk1 gc'
              go_wp2_with fail
              refine (l08Less_any _ SP.out (SX.out _ b2)).mono ?_
              rintro e w3 ⟨rfl, b3⟩
              rw [HL3.out]
              have hb3 := hb2.trans (b3.mono hb2.size)
              cases l3
              · go_wp2
                go_ret
                exact ⟨rb (HNO.out HST.out).symm, hb3⟩
              · go_wp2
                go_roundw
                case rel => exact ⟨k + 1, by omega, by go_num, by unfold Hid okN; rw [hok.out, HST.out]; rfl, hb3⟩
                case measure => simp [intOf]; omega
        · have ht : ((es[k].length : Int) != 2) = true := by simp; omega
          have hno := edgeW_no (hi := n - 1) hl
          have HN2 := Lib.hid hno
          clear hno hl htwo
          go_wp2
          go_ret
          exact ⟨rb (HNO.out (by rw [HES.out, HN2.out]; rfl)).symm, hbr⟩
      · obtain rfl : k = es.length := by omega
        go_wp2
        go_ret
        exact ⟨rb (by rw [HGO.out, hok.out]), hbr⟩
end Go.Proofs.Ytmhpbkckmjdojaa
