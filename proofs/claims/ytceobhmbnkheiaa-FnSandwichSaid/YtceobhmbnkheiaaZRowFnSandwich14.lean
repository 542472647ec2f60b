/-
  Runs from the past of any states, both sides. With it: Runs by maps: forward and from the past, both sides; picks applied. Runs by maps: plain facts for the laws. Runs from the past by maps, both sides. Runs from the past by maps, the reference's side; what the law looks at. FnPastRun: plain part.
-/
import Derived.Test.YtceobhmbnkheiaaZRowFnSandwich13
import Derived.Test.YtceobhmbnkheiaaZRowFnSandwich5
set_option linter.unusedVariables false
set_option linter.unusedSimpArgs false
namespace Go.Proofs.Ytceobhmbnkheiaa
open Go.RowKit Go.Sort
def seqM (ms : List (Int × List Int)) (n : Nat) (ps : List Int) : List Int := ps.foldl (byM ms) (upTo n)
def fwM (ms : List (Int × List Int)) (n : Nat) (ps : List Int) (j : Nat) : List Int := seqM ms n (ps.take j)
theorem fwM_zero (ms : List (Int × List Int)) (n : Nat) (ps : List Int) : fwM ms n ps 0 = upTo n := rfl
theorem fwM_succ {ms : List (Int × List Int)} {n : Nat} {ps : List Int} {j : Nat} (h : j < ps.length) : fwM ms n ps (j + 1) = byM ms (fwM ms n ps j) ps[j] := by
  unfold fwM seqM
  rw [List.take_succ_eq_append_getElem h, List.foldl_append]; rfl
theorem fwM_all (ms : List (Int × List Int)) (n : Nat) (ps : List Int) : fwM ms n ps ps.length = seqM ms n ps := by unfold fwM; rw [List.take_length]
theorem upTo_inM {n : Nat} {x : Int} (h : x ∈ upTo n) : 0 ≤ x ∧ x < n := by
  unfold upTo at h
  rw [List.mem_map] at h
  obtain ⟨i, h, rfl⟩ := h
  have := List.mem_range.1 h; omega
theorem byM_in {s t : Int} {ms : List (Int × List Int)} (hv : mapsOk s t ms) {p : Int} (hp : 0 ≤ p ∧ p < (ms.length : Int)) {st : List Int} (hst : ∀ x ∈ st, 0 ≤ x ∧ x < s) : ∀ x ∈ byM ms st p, 0 ≤ x ∧ x < s := by
  intro x hx
  unfold byM at hx
  rw [List.mem_map] at hx
  obtain ⟨y, hy, rfl⟩ := hx
  exact goM_in hv hp (hst y hy)
theorem foldM_in {s t : Int} {ms : List (Int × List Int)} (hv : mapsOk s t ms) : ∀ {ps : List Int}, PicksB ms.length ps → ∀ {st : List Int}, (∀ x ∈ st, 0 ≤ x ∧ x < s) → (∀ x ∈ ps.foldl (byM ms) st, 0 ≤ x ∧ x < s) ∧ (ps.foldl (byM ms) st).length = st.length
  | [], _, st, h => ⟨h, rfl⟩
  | p :: ps, hp, st, h => by
    rw [List.foldl_cons]
    have h1 := foldM_in hv (ps := ps) (fun q hq => hp q (by simp [hq])) (byM_in hv (hp p (by simp)) h)
    exact ⟨h1.1, by rw [h1.2]; simp [byM]⟩
theorem PicksB.take {n : Nat} {ps : List Int} (h : PicksB n ps) (j : Nat) : PicksB n (ps.take j) := fun p hp => h p (List.mem_of_mem_take hp)
theorem seqM_in {n : Nat} {t : Int} {ms : List (Int × List Int)} (hv : mapsOk n t ms) {ps : List Int} (hp : PicksB ms.length ps) : (∀ x ∈ seqM ms n ps, 0 ≤ x ∧ x < (n : Int)) ∧ (seqM ms n ps).length = n := by
  have h := foldM_in hv hp (st := upTo n) (fun x hx => upTo_inM hx)
  exact ⟨h.1, by have := h.2; rw [upTo_length] at this; exact this⟩
theorem fwM_in {n : Nat} {t : Int} {ms : List (Int × List Int)} (hv : mapsOk n t ms) {ps : List Int} (hp : PicksB ms.length ps) (j : Nat) : (∀ x ∈ fwM ms n ps j, 0 ≤ x ∧ x < (n : Int)) ∧ (fwM ms n ps j).length = n := seqM_in hv (hp.take j)
def hdI (l : List Int) : Int := l.headD 0
/-- the first of the lists whose elements are all the same -/
def firstR (n : Nat) (f : Nat → List Int) : Int × Int × Int :=
  match (List.range (n + 1)).find? (fun k => allAs (f k)) with
  | some k => (hdI (f k), (k : Int), 0)
  | none => (0, 0, 6)
def tupJ (r : Int × Int × Int) : Value := .tuple #[.int .i64 r.1, .int .i64 r.2.1, .int .i64 r.2.2]
theorem firstR_some {n : Nat} {f : Nat → List Int} {k : Nat} (hk : k ≤ n) (h : allAs (f k) = true) (hno : ∀ j, j < k → allAs (f j) = false) : firstR n f = (hdI (f k), (k : Int), 0) := by
  have : (List.range (n + 1)).find? (fun k => allAs (f k)) = some k := by
    rw [List.find?_range_eq_some]
    exact ⟨h, by simp; omega, fun j hj => by simp [hno j hj]⟩
  unfold firstR
  rw [this]
theorem firstR_none {n : Nat} {f : Nat → List Int} (hno : ∀ j, j ≤ n → allAs (f j) = false) : firstR n f = (0, 0, 6) := by
  have : (List.range (n + 1)).find? (fun k => allAs (f k)) = none := by
    rw [List.find?_eq_none]
    intro k hk
    have := List.mem_range.1 hk
    simp [hno k (by omega)]
  unfold firstR
  rw [this]
theorem firstR_spec (n : Nat) (f : Nat → List Int) : (∃ k, k ≤ n ∧ firstR n f = (hdI (f k), (k : Int), 0) ∧ allAs (f k) = true ∧ ∀ j, j < k → allAs (f j) = false) ∨ (firstR n f = (0, 0, 6) ∧ ∀ j, j ≤ n → allAs (f j) = false) := by
  cases hf : (List.range (n + 1)).find? (fun k => allAs (f k)) with
  | none =>
    right
    have h : ∀ j, j ≤ n → allAs (f j) = false := fun j hj => by
      rw [List.find?_eq_none] at hf
      have := hf j (List.mem_range.2 (by omega))
      simpa using this
    exact ⟨firstR_none h, h⟩
  | some k =>
    left
    rw [List.find?_range_eq_some] at hf
    obtain ⟨h1, h2, h3⟩ := hf
    have hk : k ≤ n := by simp at h2; omega
    have hn : ∀ j, j < k → allAs (f j) = false := fun j hj => by simpa using h3 j hj
    exact ⟨k, hk, firstR_some hk h1 hn, h1, hn⟩
theorem headJ {l : List Int} (h : 0 < l.length) : l[0] = hdI l := by
  cases l with
  | nil => simp at h
  | cons x l => rfl
/-- the first element of a list that is not empty -/
theorem SlI.first {w : World} {v : Value} {l : List Int} (h : SlI w v l) (hl : 0 < l.length) : ∃ b off c, v = .slice (some ⟨b, off, none⟩) l.length c ∧ w.cell? ⟨b, off, none⟩ = some (.int .i64 (hdI l)) := by
  obtain ⟨a, c, rfl, _, _, rd⟩ := h
  obtain ⟨b, off, rfl, g⟩ := rd.one (i64s_get hl)
  rw [headJ hl] at g
  exact ⟨b, off, c, rfl, by simpa using g⟩
theorem SlI.nth {w : World} {ad : Option Addr} {n c : Nat} {xs : List Int} (h : SlI w (.slice ad n c) xs) {k : Nat} (hk : k < xs.length) : ∃ b off, ad = some ⟨b, off, none⟩ ∧ w.cell? ⟨b, off + k, none⟩ = some (.int .i64 xs[k]) := by
  obtain ⟨b, off, h1, _, h2⟩ := h.at_ hk
  exact ⟨b, off, h1, h2⟩
end Go.Proofs.Ytceobhmbnkheiaa
namespace Go.Proofs.Ytceobhmbnkheiaa
open Go.RowKit Go.Sort
def sameTo (l : List Int) (x : Nat) : Bool := (l.take x).all (fun y => decide (y = hdI l))
theorem sameTo_one {l : List Int} (h : 0 < l.length) : sameTo l 1 = true := by
  cases l with
  | nil => simp at h
  | cons a l => simp [sameTo, hdI]
theorem sameTo_succ {l : List Int} {x : Nat} (h : x < l.length) : sameTo l (x + 1) = (sameTo l x && decide (l[x] = hdI l)) := by
  unfold sameTo
  rw [List.take_succ_eq_append_getElem h, List.all_append]; simp
theorem sameTo_all (l : List Int) : sameTo l l.length = allAs l := by
  unfold sameTo allAs hdI
  rw [List.take_length]
theorem SlI.takeJ {w : World} {ad : Option Addr} {n c : Nat} {xs : List Int} (h : SlI w (.slice ad n c) xs) {i : Nat} (hi : i ≤ xs.length) : SlI w (.slice ad i c) (xs.take i) := by
  obtain ⟨a, c', he, h2, h3, h4⟩ := h
  simp only [Value.slice.injEq] at he
  obtain ⟨rfl, rfl, rfl⟩ := he
  have hl : (xs.take i).length = i := by rw [List.length_take]; omega
  refine ⟨ad, c, by rw [hl], by omega, h3, fun j u hu => h4 j u ?_⟩
  have hj : j < (xs.take i).length := by rw [← i64s_length]; exact (List.getElem?_eq_some_iff.1 hu).1
  have hjx : j < xs.length := by omega
  rw [i64s_get hj] at hu
  rw [i64s_get hjx, ← hu]; simp
/-- what the law of runs forward looks at -/
theorem firstR_law (n : Nat) (f : Nat → List Int) : ∃ (a b c l : Int), firstR n f = (a, b, c) ∧ ((c = 0 ∧ l = b ∧ 0 ≤ b ∧ b ≤ n) ∨ (c = 6 ∧ l = (n : Int) + 1)) ∧ ∀ i : Nat, i ≤ n → (i : Int) ≤ l → (allAs (f i) = decide ((i : Int) = l)) ∧ (allAs (f i) = true → hdI (f i) = a) := by
  rcases firstR_spec n f with ⟨k, hk, h1, h2, h3⟩ | ⟨h1, h2⟩
  · refine ⟨_, _, _, k, h1, .inl ⟨rfl, rfl, by omega, by omega⟩, fun i hi hik => ?_⟩
    rcases Nat.lt_or_ge i k with h | h
    · rw [h3 i h]
      exact ⟨by symm; rw [decide_eq_false_iff_not]; omega, by intro h; cases h⟩
    · obtain rfl : i = k := by omega
      rw [h2]
      exact ⟨by simp, fun _ => rfl⟩
  · refine ⟨_, _, _, (n : Int) + 1, h1, .inr ⟨rfl, rfl⟩, fun i hi hik => ?_⟩
    rw [h2 i hi]
    exact ⟨by symm; rw [decide_eq_false_iff_not]; omega, by intro h; cases h⟩
end Go.Proofs.Ytceobhmbnkheiaa
namespace Go.Proofs.Ytceobhmbnkheiaa
open Go.RowKit Go.Sort
def pastM (ms : List (Int × List Int)) (n : Nat) (ps : List Int) (k : Nat) : List Int := seqM ms n (ps.take k).reverse
theorem PicksB.rev {n : Nat} {ps : List Int} (h : PicksB n ps) : PicksB n ps.reverse := fun p hp => h p (List.mem_reverse.1 hp)
theorem PicksB.drop {n : Nat} {ps : List Int} (h : PicksB n ps) (j : Nat) : PicksB n (ps.drop j) := fun p hp => h p (List.mem_of_mem_drop hp)
theorem pastM_in {n : Nat} {t : Int} {ms : List (Int × List Int)} (hv : mapsOk n t ms) {ps : List Int} (hp : PicksB ms.length ps) (j : Nat) : (∀ x ∈ pastM ms n ps j, 0 ≤ x ∧ x < (n : Int)) ∧ (pastM ms n ps j).length = n := seqM_in hv (hp.take j).rev
/-- backward from a list of picks -/
def backM (ms : List (Int × List Int)) (st ps : List Int) (j : Nat) : List Int := (ps.drop j).reverse.foldl (byM ms) st
theorem backM_all (ms : List (Int × List Int)) (st ps : List Int) : backM ms st ps ps.length = st := by unfold backM; simp
theorem backM_step {ms : List (Int × List Int)} {st ps : List Int} {j : Nat} (h : j < ps.length) : backM ms st ps j = byM ms (backM ms st ps (j + 1)) ps[j] := by
  unfold backM
  rw [List.drop_eq_getElem_cons h, List.reverse_cons, List.foldl_append]; rfl
theorem backM_past (ms : List (Int × List Int)) (n : Nat) (ps : List Int) (k : Nat) : backM ms (upTo n) (ps.take k) 0 = pastM ms n ps k := rfl
theorem backM_in {s t : Int} {ms : List (Int × List Int)} (hv : mapsOk s t ms) {ps : List Int} (hp : PicksB ms.length ps) {st : List Int} (h : ∀ x ∈ st, 0 ≤ x ∧ x < s) (j : Nat) : (∀ x ∈ backM ms st ps j, 0 ≤ x ∧ x < s) ∧ (backM ms st ps j).length = st.length := foldM_in hv (hp.drop j).rev h
/-- runs that look back farther and farther -/
def runGo (nx : Nat → Nat) (L : Nat) (f : Nat → List Int) : Nat → Nat → Int × Int × Int
  | 0, _ => (0, 0, 6)
  | F + 1, k => if k ≤ L then (if allAs (f k) then (hdI (f k), (k : Int), 0) else runGo nx L f F (nx k)) else (0, 0, 6)
def runR (nx : Nat → Nat) (L : Nat) (f : Nat → List Int) : Int × Int × Int := if allAs (f 0) then (hdI (f 0), 0, 0) else runGo nx L f (L + 1) 1
theorem runGo_out {nx : Nat → Nat} {L : Nat} {f : Nat → List Int} {F k : Nat} (h : L < k) : runGo nx L f F k = (0, 0, 6) := by
  cases F with
  | zero => rfl
  | succ F => unfold runGo; rw [if_neg (by omega)]
theorem runGo_hit {nx : Nat → Nat} {L : Nat} {f : Nat → List Int} {F k : Nat} (h : k ≤ L) (hF : L < k + F) (ha : allAs (f k) = true) : runGo nx L f F k = (hdI (f k), (k : Int), 0) := by
  cases F with
  | zero => omega
  | succ F => unfold runGo; rw [if_pos h, if_pos ha]
theorem runGo_miss {nx : Nat → Nat} {L : Nat} {f : Nat → List Int} {F k : Nat} (h : k ≤ L) (hF : L < k + F) (ha : allAs (f k) = false) : ∃ F', runGo nx L f F k = runGo nx L f F' (nx k) ∧ F = F' + 1 := by
  cases F with
  | zero => omega
  | succ F => refine ⟨F, ?_, rfl⟩; conv => lhs; unfold runGo
              rw [if_pos h, ha]; rfl

set_option maxRecDepth 100000 in
set_option maxHeartbeats 4000000 in
theorem fromPast_any {v u pv : Value} {ms : List (Int × List Int)} {st ps : List Int} {s t : Int} (w : World) (ha : SlM w v ms) (hu : SlI w u st) (hp : SlI w pv ps) (hv : mapsOk s t ms) (hst : ∀ x ∈ st, 0 ≤ x ∧ x < s) (hl : st.length ≤ 100) (hpb : PicksB ms.length ps) (hpl : ps.length ≤ 100) :
    Calls Try.prog 82 #[.agg #[.int .i64 s, .int .i64 t, v], u, pv] w fun e w' => ∃ r, e = .returned r ∧ SlI w' r (backM ms st ps 0) ∧ Below w.heap.size w w' := by
  have HA := Lib.hid (fun W (h : Below w.heap.size w W) => ha.below h)
  have HU := Lib.hid (fun W (h : Below w.heap.size w W) => hu.below h)
  have HP := Lib.hid (fun W (h : Below w.heap.size w W) => hp.below h)
  obtain ⟨a, ca, rfl, _, _⟩ := ha.form
  obtain ⟨pa, pc, rfl, _, _, _⟩ := id hp
  have BX := Lib.hid (mpBelow w s t (.slice a ms.length ca))
  have X := Lib.hid (MpAt.new w s t (.slice a ms.length ca))
  have HV := Lib.hid hv
  have HST := Lib.hid hst
  have HPB := Lib.hid hpb
  clear hv hst ha hu hp hpb
  go_enter Try.func82, Try.ntmps82
  go_wp2
  go_loopw [1, 7] (fun sv i wr => ∃ (j : Nat), j ≤ ps.length ∧ i = .int .i64 ((j : Int) - 1) ∧ SlI wr sv (backM ms st ps j) ∧ Below (w.alloc (.cells #[.int .i64 s, .int .i64 t, .slice a ms.length ca] 26)).heap.size (w.alloc (.cells #[.int .i64 s, .int .i64 t, .slice a ms.length ca] 26)) wr) (fun _ i _ => (intOf i + 1).toNat)
  case atStart => exact ⟨ps.length, Nat.le_refl _, rfl, by rw [backM_all]; exact HU.out _ BX.out, Below.refl _ _⟩
  case round =>
    obtain ⟨j, hj, rfl, hsl, hbw⟩ := hrel
    have HBW := Lib.hid hbw
    by_cases hj0 : 0 < j
    · obtain ⟨q, rfl⟩ : ∃ q, j = q + 1 := ⟨j - 1, by omega⟩
      have e0 : ((q + 1 : Nat) : Int) - 1 = (q : Int) := by omega
      simp only [e0]
      have hq : q < ps.length := by omega
      obtain ⟨hin, hlen⟩ := backM_in HV.out HPB.out HST.out (q + 1)
      have hbs := backM_step (ms := ms) (st := st) hq
      generalize backM ms st ps (q + 1) = R at hsl hin hlen hbs
      have HSL := Lib.hid hsl
      have HIN := Lib.hid hin
      have HLEN := Lib.hid hlen
      obtain ⟨x0, x1, x2, x3⟩ := X.out.below hbw
      have bw2 := BX.out.trans (hbw.mono BX.out.size)
      obtain ⟨rb, ro, rfl, gl⟩ := (HP.out _ bw2).nth hq
      have hx := HPB.out _ (List.getElem_mem hq)
      generalize ps[q] = x at gl hx hbs
      obtain ⟨x, rfl⟩ := Int.eq_ofNat_of_zero_le hx.1
      have hxl : x < ms.length := by omega
      have HBS := Lib.hid hbs
      have BW2 := Lib.hid bw2
      have i0 : (0 : Int) ≤ (q : Int) := by omega
      have i1 : (q : Int) < (ps.length : Int) := by omega
      have k0 := fun d os => cell_regrown x1 d os
      have k1 := fun d os => cell_regrown x2 d os
      have k2 := fun d os => cell_regrown x3 d os
      have k3 := fun d os => cell_regrown gl d os
      obtain ⟨ra, rc, rfl, _, _, _⟩ := id hsl
      clear hx hbs bw2 x0 hbw hsl hin hlen e0
      go_wp2_with fail
      go_region_law (first
        | (go_simp; go_at_call 95; refine (goBy_any x _ ((HA.out _ BW2.out).below (by (repeat (first | exact Below.refl _ _ | refine Below.drew ?_ | refine Below.alloc ?_ (by simp) _)))) (HSL.out.below (by (repeat (first | exact Below.refl _ _ | refine Below.drew ?_ | refine Below.alloc ?_ (by simp) _)))) HV.out hxl HIN.out (by have := HLEN.out; omega)).mono ?_; rintro e w4 ⟨r, rfl, o4, b4⟩; have bw4 := below_of (a := wr) (by (repeat (first | exact Below.refl _ _ | refine Below.drew ?_ | refine Below.alloc ?_ (by simp) _))) b4)
        | fail "no arm")
      all_goals
        have HB9 := Lib.hid (HBW.out.trans (bw4.mono HBW.out.size))
        have HO9 := Lib.hid o4.sl
        clear o4 b4 bw4 k0 k1 k2 k3 x1 x2 x3 gl
        go_wp2
        go_roundw
        case rel => exact ⟨q, by omega, rfl, by rw [HBS.out]; exact HO9.out, HB9.out⟩
        case measure => simp [intOf]
    · obtain rfl : j = 0 := by omega
      go_wp2
      go_ret
      exact ⟨_, rfl, hsl, BX.out.trans (hbw.mono BX.out.size)⟩
-- RUNS

theorem nextPast_any (k : Nat) (w : World) (hk : k ≤ 1000) : Calls Try.prog 49 #[.int .i64 k] w fun e w' => e = .returned (.int .i64 ((k + 1 : Nat) : Int)) ∧ w = w' := by
  have r1 : IntKind.i64.wrap ((k : Int) + 1) = ((k + 1 : Nat) : Int) := by rw [IntWalk.i64_in _ (by omega)]; omega
  go_enter Try.func49, Try.ntmps49
  go_wp2
  go_ret
  exact ⟨ri (by omega), rfl⟩
set_option maxRecDepth 100000 in
set_option maxHeartbeats 4000000 in
theorem runPast_any {v u pv : Value} {ms : List (Int × List Int)} {ps : List Int} {t : Int} (n : Nat) (w : World) (ha : SlM w v ms) (hu : SlI w u (upTo n)) (hp : SlI w pv ps) (hv : mapsOk n t ms) (hpb : PicksB ms.length ps) (hpl : ps.length ≤ 100) :
    Calls Try.prog 48 #[.agg #[.int .i64 n, .int .i64 t, v], u, pv, .int .i64 1, .func (.func 49) #[] #[]] w fun e w' => e = .returned (tupJ (runR (fun k => k + 1) ps.length (pastM ms n ps))) ∧ Below w.heap.size w w' := by
  have HA := Lib.hid (fun W (h : Below w.heap.size w W) => ha.below h)
  have HU := Lib.hid (fun W (h : Below w.heap.size w W) => hu.below h)
  have HP := Lib.hid (fun W (h : Below w.heap.size w W) => hp.below h)
  obtain ⟨a, ca, rfl, _, _⟩ := ha.form
  obtain ⟨pa, pc, rfl, hpc, _, _⟩ := id hp
  have BX := Lib.hid (mpBelow w n t (.slice a ms.length ca))
  have X := Lib.hid (MpAt.new w n t (.slice a ms.length ca))
  obtain ⟨⟨hn1, hn2⟩, _⟩ := id hv
  have HV := Lib.hid hv
  have HPB := Lib.hid hpb
  have hul : 0 < (upTo n).length := by rw [upTo_length]; omega
  obtain ⟨fb, fo, fc, rfl, g0⟩ := (hu.below BX.out).first hul
  have hun : (upTo n).length = n := upTo_length n
  rw [hun] at HU ⊢
  have hn0 : (0 : Int) < (n : Int) := by omega
  have hn0' : 0 < n := by omega
  have HUL := Lib.hid hul
  have hR := Lib.hid (show allAs (upTo n) = true → runR (fun k => k + 1) ps.length (pastM ms n ps) = (hdI (upTo n), 0, 0) from fun h => by unfold runR; rw [show pastM ms n ps 0 = upTo n from rfl, if_pos h])
  have hR2 := Lib.hid (show allAs (upTo n) = false → runR (fun k => k + 1) ps.length (pastM ms n ps) = runGo (fun k => k + 1) ps.length (pastM ms n ps) (ps.length + 1) 1 from fun h => by unfold runR; rw [show pastM ms n ps 0 = upTo n from rfl, h]; rfl)
  generalize runR (fun k => k + 1) ps.length (pastM ms n ps) = RES at hR hR2 ⊢
  generalize hm : allAs (upTo n) = M at hR hR2
  have HM := Lib.hid hm
  clear hm hv ha hu hp hpb hul hun
  cases M
  · have HRES := Lib.hid (hR2.out rfl)
    clear hR hR2 g0
    go_enter Try.func48, Try.ntmps48
    go_wp2_with fail
    refine (allSame_any _ (HU.out _ BX.out) HUL.out).mono ?_
    rintro e w1 ⟨rfl, rfl⟩
    rw [HM.out]
    go_wp2
    go_loopw [13] (fun i wr => ∃ (k F : Nat), 1 ≤ k ∧ k ≤ 2 * ps.length + 1 ∧ i = .int .i64 k ∧ Hid (ps.length < k + F) ∧ Hid (RES = runGo (fun k => k + 1) ps.length (pastM ms n ps) F k) ∧ Below (w.alloc (.cells #[.int .i64 n, .int .i64 t, .slice a ms.length ca] 26)).heap.size (w.alloc (.cells #[.int .i64 n, .int .i64 t, .slice a ms.length ca] 26)) wr) (fun i _ => 2 * ps.length + 2 - (intOf i).toNat)
    case atStart => exact ⟨1, ps.length + 1, Nat.le_refl _, by omega, rfl, Lib.hid (by omega), HRES, Below.refl _ _⟩
    case round =>
      obtain ⟨k, F, hk1, hk2, rfl, hF, hres, hbw⟩ := hrel
      have HBW := Lib.hid hbw
      by_cases hkl : k ≤ ps.length
      · obtain ⟨x0, x1, x2, x3⟩ := X.out.below hbw
        have bw2 := BX.out.trans (hbw.mono BX.out.size)
        have HPT := Lib.hid ((HP.out _ bw2).takeJ (i := k) hkl)
        have HU2 := Lib.hid (HU.out _ bw2)
        have BW2 := Lib.hid bw2
        obtain ⟨hin, hlen⟩ := pastM_in HV.out HPB.out k
        have hhit := runGo_hit (nx := fun k => k + 1) (f := pastM ms n ps) hkl hF.out
        have hmiss := runGo_miss (nx := fun k => k + 1) (f := pastM ms n ps) hkl hF.out
        rw [← hres.out] at hhit hmiss
        have HHIT := Lib.hid hhit
        have HMISS := Lib.hid hmiss
        have i0 : (0 : Int) ≤ (k : Int) := by omega
        have i1 : (k : Int) ≤ (ps.length : Int) := by omega
        have i2 : (k : Int) ≤ (pc : Int) := by omega
        have k0 := fun d os => cell_regrown x1 d os
        have k1 := fun d os => cell_regrown x2 d os
        have k2 := fun d os => cell_regrown x3 d os
        clear x0 hbw bw2 hhit hmiss hin
        go_wp2_with fail
        go_region_law (first
          | (go_simp; go_at_call 82; refine (fromPast_any _ ((HA.out _ BW2.out).below (by (repeat (first | exact Below.refl _ _ | refine Below.drew ?_ | refine Below.alloc ?_ (by simp) _)))) (HU2.out.below (by (repeat (first | exact Below.refl _ _ | refine Below.drew ?_ | refine Below.alloc ?_ (by simp) _)))) (HPT.out.below (by (repeat (first | exact Below.refl _ _ | refine Below.drew ?_ | refine Below.alloc ?_ (by simp) _)))) HV.out (fun x hx => upTo_inM hx) (by rw [upTo_length]; omega) (HPB.out.take k) (by rw [List.length_take]; omega)).mono ?_; rintro e w4 ⟨r, rfl, o4, b4⟩; have bw4 := below_of (a := wr) (by (repeat (first | exact Below.refl _ _ | refine Below.drew ?_ | refine Below.alloc ?_ (by simp) _))) b4)
          | fail "no arm")
        all_goals
          have HB9 := Lib.hid (HBW.out.trans (bw4.mono HBW.out.size))
          rw [backM_past] at o4
          generalize pastM ms n ps k = R at o4 HHIT HMISS hlen
          have hrl : 0 < R.length := by omega
          obtain ⟨rb, ro, rc, rfl, q0⟩ := o4.first hrl
          rw [hlen] at o4 ⊢
          have O4 := Lib.hid o4
          have HRL := Lib.hid hrl
          generalize hm2 : allAs R = M2 at HHIT HMISS
          have HM2 := Lib.hid hm2
          have r0 : IntKind.i64.wrap (k : Int) = (k : Int) := IntWalk.i64_in _ (by omega)
          clear o4 b4 bw4 k0 k1 k2 x1 x2 x3 hlen hrl hm2
          cases M2
          · obtain ⟨F', hF1, hF2⟩ := HMISS.out rfl
            have HF1 := Lib.hid hF1
            have HF2 := Lib.hid hF2
            clear hF1 hF2 q0
            go_wp2_with fail
            refine (allSame_any _ O4.out HRL.out).mono ?_
            rintro e w5 ⟨rfl, rfl⟩
            rw [HM2.out]
            go_wp2_with fail
            refine (nextPast_any k _ (by omega)).mono ?_
            rintro e w5 ⟨rfl, rfl⟩
            go_wp2
            go_roundw
            case rel => exact ⟨k + 1, F', by omega, by omega, by go_num, Lib.hid (by have := hF.out; have := HF2.out; omega), HF1, HB9.out⟩
            case measure => simp [intOf]; omega
          · have HH := Lib.hid (HHIT.out rfl)
            go_wp2_with fail
            refine (allSame_any _ O4.out HRL.out).mono ?_
            rintro e w5 ⟨rfl, rfl⟩
            rw [HM2.out]
            go_wp2
            go_ret3
            exact ⟨by rw [HH.out]; rfl, BX.out.trans (HB9.out.mono BX.out.size)⟩
      · have HH := Lib.hid (hres.out.trans (runGo_out (by omega)))
        have i1 : ¬ (k : Int) ≤ (ps.length : Int) := by omega
        go_wp2
        go_ret3
        exact ⟨by rw [HH.out]; rfl, BX.out.trans (HBW.out.mono BX.out.size)⟩
  · have HRES := Lib.hid (hR.out rfl)
    clear hR hR2
    go_enter Try.func48, Try.ntmps48
    go_wp2_with fail
    refine (allSame_any _ (HU.out _ BX.out) HUL.out).mono ?_
    rintro e w1 ⟨rfl, rfl⟩
    rw [HM.out]
    go_wp2
    go_ret3
    exact ⟨by rw [HRES.out]; rfl, BX.out⟩

set_option maxRecDepth 100000 in
set_option maxHeartbeats 4000000 in
theorem ImplPastRun_any {v pv : Value} {ms : List (Int × List Int)} {ps : List Int} {t : Int} (n : Nat) (w : World) (ha : SlM w v ms) (hp : SlI w pv ps) (hv : mapsOk n t ms) (hpb : PicksB ms.length ps) (hl : ps.length ≤ 100) :
    Calls Try.prog 15 #[.agg #[.int .i64 n, .int .i64 t, v], pv] w fun e w' => e = .returned (tupJ (runR (fun k => k + 1) ps.length (pastM ms n ps))) ∧ Below w.heap.size w w' := by
  have HA := Lib.hid (fun W (h : Below w.heap.size w W) => ha.below h)
  have HP := Lib.hid (fun W (h : Below w.heap.size w W) => hp.below h)
  obtain ⟨a, ca, rfl, _, _⟩ := ha.form
  obtain ⟨pa, pc, rfl, _, _, _⟩ := id hp
  have BX := Lib.hid (mpBelow w n t (.slice a ms.length ca))
  have X := Lib.hid (MpAt.new w n t (.slice a ms.length ca))
  obtain ⟨⟨hn1, hn2⟩, _⟩ := id hv
  have HV := Lib.hid hv
  have HPB := Lib.hid hpb
  clear hv hpb ha hp
  go_enter Try.func15, Try.ntmps15
  go_wp2_with fail
  refine (picksCode_ok _ (HA.out _ BX.out) (HP.out _ BX.out) HV.out HPB.out (by omega)).mono ?_
  rintro e w1 ⟨rfl, b1⟩
  have X1 := Lib.hid (X.out.below b1)
  have B1 := Lib.hid (BX.out.trans (b1.mono BX.out.size))
  obtain ⟨x0, x1, x2, x3⟩ := X1.out
  have k0 := fun d os => cell_regrown x1 d os
  have k1 := fun d os => cell_regrown x2 d os
  have k2 := fun d os => cell_regrown x3 d os
  have HRUN := Lib.hid (fun (W : World) (u : Value) (h : Below w.heap.size w W) (hu : SlI W u (upTo n)) => runPast_any (v := .slice a ms.length ca) (pv := .slice pa ps.length pc) n W (HA.out W h) hu (HP.out W h) HV.out HPB.out hl)
  generalize hR : runR (fun k => k + 1) ps.length (pastM ms n ps) = R at HRUN ⊢
  have HRR := Lib.hid hR
  clear b1 hR
  go_wp2_with fail
  go_region_law (first
    | (go_simp; go_at_call 48; refine (HRUN.out _ _ HB4 O4).mono ?_; rintro e w5 ⟨rfl, b5⟩; have bw5 := below_of (a := w) HB4 b5; obtain ⟨R1, R2, R3⟩ := R; rw [show tupJ (R1, R2, R3) = .tuple #[.int .i64 R1, .int .i64 R2, .int .i64 R3] from rfl])
    | (go_simp; go_at_call 50; refine (everyState_any n _ (by omega)).mono ?_; rintro e w4 ⟨u, rfl, o4, b4⟩; have O4 := o4.sl; have bw4 := below_of (a := w1) (by (repeat (first | exact Below.refl _ _ | refine Below.drew ?_ | refine Below.alloc ?_ (by simp) _))) b4; have X4 := X1.out.below bw4; have y1 := X4.2.1; have y2 := X4.2.2.1; have y3 := X4.2.2.2; have HB4 := B1.out.trans ((below_of (a := w1) (by (repeat (first | exact Below.refl _ _ | refine Below.drew ?_ | refine Below.alloc ?_ (by simp) _))) b4).mono B1.out.size))
    | fail "no arm")
  all_goals
    go_wp2
    go_ret3
    exact ⟨by rw [HRR.out]; simp [tupJ, Act.put, go_sem], bw5⟩
end Go.Proofs.Ytceobhmbnkheiaa
namespace Go.Proofs.Ytceobhmbnkheiaa
open Go.RowKit Go.Sort
theorem upTo_one : allAs (upTo 1) = true ∧ hdI (upTo 1) = 0 := by decide
theorem upTo_two {n : Nat} (h : 2 ≤ n) : allAs (upTo n) = false := by
  obtain ⟨m, rfl⟩ : ∃ m, n = m + 2 := ⟨n - 2, by omega⟩
  have hl : 1 < (upTo (m + 2)).length := by rw [upTo_length]; omega
  refine allAs_not hl ?_
  have h0 : (upTo (m + 2)).headD 0 = 0 := by
    unfold upTo
    simp [List.range_succ_eq_map]
  rw [h0]
  have h1 : (upTo (m + 2))[1]? = some 1 := by unfold upTo; rw [List.getElem?_map, List.getElem?_range (by omega)]; rfl
  rw [List.getElem?_eq_getElem hl] at h1
  simp only [Option.some.injEq] at h1
  rw [h1]; decide
theorem runGo_first {L : Nat} {f : Nat → List Int} : ∀ (F k : Nat), L < k + F → (∀ j, j < k → allAs (f j) = false) → runGo (fun k => k + 1) L f F k = firstR L f := by
  intro F
  induction F with
  | zero => intro k h hno; rw [runGo_out (by omega)]; exact (firstR_none (fun j hj => hno j (by omega))).symm
  | succ F ih =>
    intro k h hno
    by_cases hk : k ≤ L
    · cases ha : allAs (f k) with
      | true => rw [runGo_hit hk h ha]; exact (firstR_some hk ha hno).symm
      | false =>
        conv => lhs; unfold runGo
        rw [if_pos hk, ha]
        exact ih (k + 1) (by omega) (fun j hj => by
          by_cases hjk : j = k
          · subst hjk; exact ha
          · exact hno j (by omega))
    · rw [runGo_out (by omega)]; exact (firstR_none (fun j hj => hno j (by omega))).symm
theorem runR_first (L : Nat) (f : Nat → List Int) : runR (fun k => k + 1) L f = firstR L f := by
  unfold runR
  cases ha : allAs (f 0) with
  | true => rw [if_pos rfl]; exact (firstR_some (Nat.zero_le _) ha (fun j hj => absurd hj (by omega))).symm
  | false => exact runGo_first (L + 1) 1 (by omega) (fun j hj => by have h0 : j = 0 := (by omega); subst h0; exact ha)
/-- a window's outcome -/
theorem runGo_win {L : Nat} {f : Nat → List Int} : ∀ (F k : Nat), L < k + F → 1 ≤ k → (k = 1 ∨ ∃ k', k = 2 * k' ∧ 1 ≤ k' ∧ k' ≤ L ∧ allAs (f k') = false) →
    (∃ d, runGo (fun k => 2 * k) L f F k = (hdI (f d), (d : Int), 0) ∧ 1 ≤ d ∧ d ≤ L ∧ allAs (f d) = true ∧ (d = 1 ∨ ∃ k', d = 2 * k' ∧ allAs (f k') = false)) ∨
    (runGo (fun k => 2 * k) L f F k = (0, 0, 6) ∧ (L = 0 ∨ ∃ k', L < 2 * k' ∧ k' ≤ L ∧ allAs (f k') = false)) := by
  intro F
  induction F with
  | zero =>
    intro k h h1 h2
    right
    refine ⟨runGo_out (by omega), ?_⟩
    rcases h2 with rfl | ⟨k', rfl, a, b, c⟩
    · left; omega
    · right; exact ⟨k', by omega, b, c⟩
  | succ F ih =>
    intro k h h1 h2
    by_cases hk : k ≤ L
    · cases ha : allAs (f k) with
      | true =>
        left
        refine ⟨k, runGo_hit hk h ha, h1, hk, ha, ?_⟩
        rcases h2 with rfl | ⟨k', rfl, a, b, c⟩
        · exact .inl rfl
        · exact .inr ⟨k', rfl, c⟩
      | false =>
        have e : runGo (fun k => 2 * k) L f (F + 1) k = runGo (fun k => 2 * k) L f F (2 * k) := by
          conv => lhs; unfold runGo
          rw [if_pos hk, ha]; rfl
        rw [e]
        exact ih (2 * k) (by omega) (by omega) (.inr ⟨k, rfl, h1, hk, ha⟩)
    · right
      refine ⟨runGo_out (by omega), ?_⟩
      rcases h2 with rfl | ⟨k', rfl, a, b, c⟩
      · left; omega
      · right; exact ⟨k', by omega, b, c⟩

set_option maxRecDepth 100000 in
set_option maxHeartbeats 4000000 in
theorem l05Back_any {v u pv : Value} {ms : List (Int × List Int)} {st ps : List Int} {s t : Int} (b k : Nat) (w : World) (hb : MpAt w b s t v) (ha : SlM w v ms) (hu : SlI w u st) (hp : SlI w pv ps) (hv : mapsOk s t ms) (hst : ∀ x ∈ st, 0 ≤ x ∧ x < s) (hl : st.length ≤ 100) (hpb : PicksB ms.length ps) (hpl : ps.length ≤ 100) (hk : k ≤ ps.length) :
    Calls Try.prog 85 #[.pointer (some ⟨b, 0, none⟩), u, pv, .int .i64 k] w fun e w' => ∃ r, e = .returned r ∧ OwnI w' w.heap.size r (backM ms st (ps.take k) 0) ∧ Below w.heap.size w w' := by
  have HA := Lib.hid (fun W (h : Below w.heap.size w W) => ha.below h)
  have X := Lib.hid hb
  have HP := Lib.hid (fun W (h : Below w.heap.size w W) => hp.below h)
  have HUU := Lib.hid hu
  obtain ⟨pa, pc, rfl, _, _, _⟩ := id hp
  have HV := Lib.hid hv
  have HST := Lib.hid hst
  have HPB := Lib.hid hpb
  have htl : (ps.take k).length = k := by rw [List.length_take]; omega
  have HTL := Lib.hid htl
  have hall := backM_all ms st (ps.take k)
  rw [htl] at hall
  have HALL := Lib.hid hall
  clear hv hst ha hu hp hpb hb htl hall
  go_enter Try.func85, Try.ntmps85
  go_wp2_with fail
  refine (l00Own_any _ HUU.out (by omega)).mono ?_
  rintro e w1 ⟨nv, rfl, o1, b1⟩
  have O1 := Lib.hid o1
  have B1 := Lib.hid b1
  clear o1 b1
  go_wp2
  go_loopw [9, 10] (fun sv i wr => ∃ (j : Nat), j ≤ k ∧ i = .int .i64 ((j : Int) - 1) ∧ OwnI wr w.heap.size sv (backM ms st (ps.take k) j) ∧ Below w.heap.size w wr) (fun _ i _ => (intOf i + 1).toNat)
  case atStart => exact ⟨k, Nat.le_refl _, rfl, by rw [HALL.out]; exact O1.out, B1.out⟩
  case round =>
    clear O1 B1
    obtain ⟨j, hj, rfl, hown, hbw⟩ := hrel
    have HBW := Lib.hid hbw
    by_cases hj0 : 0 < j
    · obtain ⟨q, rfl⟩ : ∃ q, j = q + 1 := ⟨j - 1, by omega⟩
      have e0 : ((q + 1 : Nat) : Int) - 1 = (q : Int) := by omega
      simp only [e0]
      have hq : q < (ps.take k).length := by have := HTL.out; omega
      have hq2 : q < ps.length := by omega
      obtain ⟨hin, hlen⟩ := backM_in HV.out (HPB.out.take k) HST.out (q + 1)
      have hbs := backM_step (ms := ms) (st := st) hq
      have hge : (ps.take k)[q] = ps[q] := by simp
      rw [hge] at hbs
      generalize backM ms st (ps.take k) (q + 1) = R at hown hin hlen hbs
      have HO := Lib.hid hown
      have HIN := Lib.hid hin
      have HLEN := Lib.hid hlen
      obtain ⟨rb, ro, rfl, gl⟩ := (HP.out _ hbw).nth hq2
      have hx := HPB.out _ (List.getElem_mem hq2)
      generalize ps[q] = x at gl hx hbs hge
      obtain ⟨x, rfl⟩ := Int.eq_ofNat_of_zero_le hx.1
      have hxl : x < ms.length := by omega
      have HBS := Lib.hid hbs
      have i0 : (0 : Int) ≤ (q : Int) := by omega
      have i1 : (q : Int) < (ps.length : Int) := by omega
      clear hx hbs hbw hown hin hlen e0 hge hq
      go_wp2_with fail
      refine (l05By_any b x _ (X.out.below HBW.out) (HA.out _ HBW.out) HO.out.sl HV.out hxl HIN.out (by have := HLEN.out; omega)).mono ?_
      rintro e w4 ⟨r, rfl, o4, b4⟩
      have HB9 := Lib.hid (HBW.out.trans (b4.mono HBW.out.size))
      have HO9 := Lib.hid (o4.lower (base' := w.heap.size) HBW.out.size)
      clear o4 b4 gl
      go_wp2
      go_roundw
      case rel => exact ⟨q, by omega, rfl, by rw [HBS.out]; exact HO9.out, HB9.out⟩
      case measure => simp [intOf]
    · obtain rfl : j = 0 := by omega
      go_wp2
      go_ret
      exact ⟨_, rfl, hown, hbw⟩

set_option maxRecDepth 100000 in
set_option maxHeartbeats 4000000 in
theorem l05Least_any {v u pv : Value} {ms : List (Int × List Int)} {ps : List Int} {t : Int} (n b : Nat) (w : World) (hb : MpAt w b n t v) (ha : SlM w v ms) (hu : SlI w u (upTo n)) (hp : SlI w pv ps) (hv : mapsOk n t ms) (hpb : PicksB ms.length ps) (hpl : ps.length ≤ 100) :
    Calls Try.prog 57 #[.pointer (some ⟨b, 0, none⟩), u, pv] w fun e w' => e = .returned (tupJ (firstR ps.length (pastM ms n ps))) ∧ Below w.heap.size w w' := by
  have HA := Lib.hid (fun W (h : Below w.heap.size w W) => ha.below h)
  have X := Lib.hid hb
  have HP := Lib.hid (fun W (h : Below w.heap.size w W) => hp.below h)
  have HU := Lib.hid (fun W (h : Below w.heap.size w W) => hu.below h)
  obtain ⟨pa, pc, rfl, _, _, _⟩ := id hp
  obtain ⟨⟨hn1, hn2⟩, _⟩ := id hv
  have HV := Lib.hid hv
  have HPB := Lib.hid hpb
  clear hv ha hu hp hpb hb
  go_enter Try.func57, Try.ntmps57
  go_wp2
  go_loopw [9] (fun k wr => ∃ (j : Nat), j ≤ ps.length + 1 ∧ k = .int .i64 j ∧ Hid (∀ i, i < j → allAs (pastM ms n ps i) = false) ∧ Below w.heap.size w wr) (fun k _ => ps.length + 1 - (intOf k).toNat)
  case atStart => exact ⟨0, Nat.zero_le _, rfl, Lib.hid (fun i hi => absurd hi (by omega)), Below.refl _ _⟩
  case round =>
    obtain ⟨j, hj, rfl, hno, hbw⟩ := hrel
    have HBW := Lib.hid hbw
    by_cases hjl : j ≤ ps.length
    · obtain ⟨hin, hlen⟩ := pastM_in HV.out HPB.out j
      have i9 : (j : Int) ≤ (ps.length : Int) := by omega
      have HFS := Lib.hid (fun h1 h2 => firstR_some (n := ps.length) (f := pastM ms n ps) (k := j) hjl h1 h2)
      have HM9 := Lib.hid (show allAs (pastM ms n ps j) = false → ∀ i, i < j + 1 → allAs (pastM ms n ps i) = false from fun h i hi => by
        by_cases hij : i = j
        · subst hij; exact h
        · exact hno.out i (by omega))
      go_wp2_with fail
      refine (l05Back_any b j _ (X.out.below HBW.out) (HA.out _ HBW.out) (HU.out _ HBW.out) (HP.out _ HBW.out) HV.out (fun x hx => upTo_inM hx) (by rw [upTo_length]; omega) HPB.out hpl hjl).mono ?_
      rintro e w2 ⟨r, rfl, o2, b2⟩
      rw [backM_past] at o2
      generalize pastM ms n ps j = R at o2 HFS HM9 hlen
      have B2 := Lib.hid (HBW.out.trans (b2.mono HBW.out.size))
      have O2 := Lib.hid o2.sl
      have hrl := Lib.hid (show 0 < R.length by omega)
      generalize hm : allAs R = M at HFS HM9
      have HM := Lib.hid hm
      obtain ⟨ra, rc, rfl, _, _, _⟩ := id O2.out
      clear hm o2 b2 hbw hin hlen
      go_wp2_with fail
      refine (l05Equal_any _ O2.out).mono ?_
      rintro e w3 ⟨rfl, b3⟩
      rw [HM.out]
      have B3 := Lib.hid (B2.out.trans (b3.mono B2.out.size))
      obtain ⟨rb, ro, rc', he, g0⟩ := (O2.out.below b3).first hrl.out
      simp only [Value.slice.injEq] at he
      obtain ⟨rfl, _, _⟩ := he
      have hrl' := hrl.out
      have hrl2 : (0 : Int) < (R.length : Int) := by omega
      clear b3
      cases M
      · go_wp2
        go_roundw
        case rel => exact ⟨j + 1, by omega, by go_num, Lib.hid (HM9.out (by simp)), B3.out⟩
        case measure => simp [intOf]; omega
      · have HR := Lib.hid (HFS.out (by simp) hno.out)
        go_wp2
        go_ret3
        exact ⟨by rw [HR.out]; rfl, B3.out⟩
    · have hR := Lib.hid (firstR_none (n := ps.length) (f := pastM ms n ps) (fun i hi => hno.out i (by omega)))
      have i9 : ¬ (j : Int) ≤ (ps.length : Int) := by omega
      go_wp2
      go_ret3
      exact ⟨by rw [hR.out]; rfl, hbw⟩
end Go.Proofs.Ytceobhmbnkheiaa
namespace Go.Proofs.Ytceobhmbnkheiaa
open Go.RowKit Go.Sort
def goS (ms : List (Int × List Int)) (ps : List Int) (x : Int) : Int := ps.foldl (fun x p => goM ms p x) x
theorem fold_map (ms : List (Int × List Int)) : ∀ (ps st : List Int), ps.foldl (byM ms) st = st.map (goS ms ps)
  | [], st => by
    show st = st.map (goS ms [])
    rw [show goS ms [] = id from rfl, List.map_id]
  | p :: ps, st => by
    rw [List.foldl_cons, fold_map ms ps]
    unfold byM
    rw [List.map_map]; rfl
theorem hdI_map {f : Int → Int} {l : List Int} (h : 0 < l.length) : hdI (l.map f) = f (hdI l) := by
  cases l with
  | nil => simp at h
  | cons x l => rfl
theorem allAs_hd {l : List Int} : allAs l = true ↔ ∀ x ∈ l, x = hdI l := by
  unfold allAs hdI; rw [List.all_eq_true]; simp
/-- who looks farther back sees the same state -/
theorem past_mono {n : Nat} {t : Int} {ms : List (Int × List Int)} (hv : mapsOk n t ms) {ps : List Int} (hp : PicksB ms.length ps) {i : Nat} (hi : i < ps.length) (h : allAs (pastM ms n ps i) = true) :
    allAs (pastM ms n ps (i + 1)) = true ∧ hdI (pastM ms n ps (i + 1)) = hdI (pastM ms n ps i) := by
  have hn : 1 ≤ n := by have := hv.1.1; omega
  obtain ⟨G, hG⟩ : ∃ G, G = goS ms (ps.take i).reverse := ⟨_, rfl⟩
  have e1 : pastM ms n ps i = (upTo n).map G := by unfold pastM seqM; rw [fold_map, hG]
  have e2 : pastM ms n ps (i + 1) = (byM ms (upTo n) ps[i]).map G := by
    unfold pastM seqM
    rw [List.take_succ_eq_append_getElem hi, List.reverse_append, List.reverse_singleton, List.singleton_append, List.foldl_cons, fold_map, hG]
  have hin : ∀ x ∈ byM ms (upTo n) ps[i], 0 ≤ x ∧ x < (n : Int) := byM_in hv (hp _ (List.getElem_mem hi)) (fun x hx => upTo_inM hx)
  have hbl : (byM ms (upTo n) ps[i]).length = n := by unfold byM; rw [List.length_map, upTo_length]
  have key : ∀ x : Int, 0 ≤ x → x < n → G x = hdI (pastM ms n ps i) := by
    intro x h0 h1
    refine allAs_hd.1 h _ ?_
    rw [e1]
    refine List.mem_map.2 ⟨x, ?_, rfl⟩
    unfold upTo
    exact List.mem_map.2 ⟨x.toNat, List.mem_range.2 (by omega), by omega⟩
  have h2 : ∀ y ∈ pastM ms n ps (i + 1), y = hdI (pastM ms n ps i) := by
    intro y hy
    rw [e2, List.mem_map] at hy
    obtain ⟨x, hx, rfl⟩ := hy
    exact key x (hin x hx).1 (hin x hx).2
  have h3 : hdI (pastM ms n ps (i + 1)) = hdI (pastM ms n ps i) := by
    have hl : 0 < (pastM ms n ps (i + 1)).length := by rw [e2, List.length_map, hbl]; omega
    have := h2 _ (List.getElem_mem hl)
    rw [headJ hl] at this
    exact this
  exact ⟨allAs_hd.2 (fun x hx => by rw [h3]; exact h2 x hx), h3⟩
theorem past_le {L : Nat} {f : Nat → List Int} (hm : ∀ i, i < L → allAs (f i) = true → allAs (f (i + 1)) = true ∧ hdI (f (i + 1)) = hdI (f i)) : ∀ (d i : Nat), i + d ≤ L → allAs (f i) = true → allAs (f (i + d)) = true ∧ hdI (f (i + d)) = hdI (f i)
  | 0, _, _, h => ⟨h, rfl⟩
  | d + 1, i, hl, h => by
    obtain ⟨h1, h2⟩ := past_le hm d i (by omega) h
    obtain ⟨h3, h4⟩ := hm (i + d) (by omega) h1
    exact ⟨h3, h4.trans h2⟩
/-- what the law of runs from the past looks at -/
theorem past_law {L : Nat} {f : Nat → List Int} (hm : ∀ i, i < L → allAs (f i) = true → allAs (f (i + 1)) = true ∧ hdI (f (i + 1)) = hdI (f i)) :
    ∃ (a b c l d e g : Int), firstR L f = (a, b, c) ∧ runR (fun k => 2 * k) L f = (d, e, g) ∧ ((c = 0 ∧ l = b ∧ 0 ≤ b ∧ b ≤ L) ∨ (c = 6 ∧ l = (L : Int) + 1)) ∧
      (∀ i : Nat, i ≤ L → (allAs (f i) = decide (l ≤ (i : Int))) ∧ (allAs (f i) = true → hdI (f i) = a)) ∧ 0 ≤ e ∧ e ≤ L ∧
      ((g = 6 ∧ (c = 6 ∨ (L : Int) < 2 * l)) ∨ (g = 0 ∧ c = 0 ∧ d = a ∧ b ≤ e ∧ ((b = 0 ∧ e = 0) ∨ (0 < b ∧ e < 2 * b)))) := by
  have hle : ∀ {i j : Nat}, i ≤ j → j ≤ L → allAs (f i) = true → allAs (f j) = true ∧ hdI (f j) = hdI (f i) := by
    intro i j hij hj h
    have := past_le hm (j - i) i (by omega) h
    rw [show i + (j - i) = j by omega] at this
    exact this
  rcases firstR_spec L f with ⟨k, hk, h1, h2, h3⟩ | ⟨h1, h2⟩
  · have hall : ∀ i : Nat, i ≤ L → (allAs (f i) = decide ((k : Int) ≤ (i : Int))) ∧ (allAs (f i) = true → hdI (f i) = hdI (f k)) := by
      intro i hi
      rcases Nat.lt_or_ge i k with h | h
      · rw [h3 i h]
        exact ⟨by symm; rw [decide_eq_false_iff_not]; omega, by intro h; cases h⟩
      · obtain ⟨q1, q2⟩ := hle h hi h2
        rw [q1]
        exact ⟨by symm; rw [decide_eq_true_eq]; omega, fun _ => q2⟩
    by_cases h0 : allAs (f 0) = true
    · have hk0 : k = 0 := by
        rcases Nat.eq_zero_or_pos k with e | e
        · exact e
        · have := h3 0 e; rw [h0] at this; cases this
      subst hk0
      exact ⟨_, _, _, 0, _, _, _, h1, by unfold runR; rw [if_pos h0], .inl ⟨rfl, rfl, by omega, by omega⟩, hall, by omega, by omega, .inr ⟨rfl, rfl, rfl, by omega, .inl ⟨rfl, rfl⟩⟩⟩
    · have h0' : allAs (f 0) = false := by simpa using h0
      have hkp : 0 < k := by
        rcases Nat.eq_zero_or_pos k with e | e
        · subst e; rw [h2] at h0'; cases h0'
        · exact e
      have hr : runR (fun k => 2 * k) L f = runGo (fun k => 2 * k) L f (L + 1) 1 := by unfold runR; rw [h0']; rfl
      rcases runGo_win (L := L) (f := f) (L + 1) 1 (by omega) (Nat.le_refl _) (.inl rfl) with ⟨d, g1, g2, g3, g4, g5⟩ | ⟨g1, g2⟩
      · have hkd : k ≤ d := by
          rcases Nat.lt_or_ge d k with h | h
          · rw [h3 d h] at g4; cases g4
          · exact h
        refine ⟨_, _, _, k, _, _, _, h1, by rw [hr]; exact g1, .inl ⟨rfl, rfl, by omega, by omega⟩, hall, by omega, by omega, .inr ⟨rfl, rfl, (hle hkd g3 h2).2, by omega, .inr ⟨by omega, ?_⟩⟩⟩
        rcases g5 with rfl | ⟨k', rfl, g6⟩
        · omega
        · have : k' < k := by
            rcases Nat.lt_or_ge k' k with h | h
            · exact h
            · have := (hle h (by omega) h2).1; rw [g6] at this; cases this
          omega
      · refine ⟨_, _, _, k, _, _, _, h1, by rw [hr]; exact g1, .inl ⟨rfl, rfl, by omega, by omega⟩, hall, by omega, by omega, .inl ⟨rfl, .inr ?_⟩⟩
        rcases g2 with rfl | ⟨k', g3, g4, g5⟩
        · omega
        · have : k' < k := by
            rcases Nat.lt_or_ge k' k with h | h
            · exact h
            · have := (hle h g4 h2).1; rw [g5] at this; cases this
          omega
  · have h0' : allAs (f 0) = false := h2 0 (Nat.zero_le _)
    have hr : runR (fun k => 2 * k) L f = runGo (fun k => 2 * k) L f (L + 1) 1 := by unfold runR; rw [h0']; rfl
    have hall : ∀ i : Nat, i ≤ L → (allAs (f i) = decide ((L : Int) + 1 ≤ (i : Int))) ∧ (allAs (f i) = true → hdI (f i) = 0) := by
      intro i hi
      rw [h2 i hi]
      exact ⟨by symm; rw [decide_eq_false_iff_not]; omega, by intro h; cases h⟩
    rcases runGo_win (L := L) (f := f) (L + 1) 1 (by omega) (Nat.le_refl _) (.inl rfl) with ⟨d, g1, g2, g3, g4, g5⟩ | ⟨g1, g2⟩
    · rw [h2 d g3] at g4; cases g4
    · exact ⟨_, _, _, (L : Int) + 1, _, _, _, h1, by rw [hr]; exact g1, .inr ⟨rfl, rfl⟩, hall, by omega, by omega, .inl ⟨rfl, .inl rfl⟩⟩
end Go.Proofs.Ytceobhmbnkheiaa
namespace Go.Proofs.Ytceobhmbnkheiaa
open Go.RowKit Go.Sort
def pastS (ms : List (Int × List Int)) (st ps : List Int) (k : Nat) : List Int := backM ms st (ps.take k) 0
theorem pastS_def (ms : List (Int × List Int)) (st ps : List Int) (k : Nat) : pastS ms st ps k = backM ms st (ps.take k) 0 := rfl
theorem pastS_zero (ms : List (Int × List Int)) (st ps : List Int) : pastS ms st ps 0 = st := by unfold pastS backM; simp
theorem pastS_all (ms : List (Int × List Int)) (n : Nat) (ps : List Int) (k : Nat) : pastS ms (upTo n) ps k = pastM ms n ps k := rfl
theorem pastS_in {n : Nat} {t : Int} {ms : List (Int × List Int)} (hv : mapsOk n t ms) {ps st : List Int} (hp : PicksB ms.length ps) (h : ∀ x ∈ st, 0 ≤ x ∧ x < (n : Int)) (k : Nat) : (∀ x ∈ pastS ms st ps k, 0 ≤ x ∧ x < (n : Int)) ∧ (pastS ms st ps k).length = st.length := backM_in hv (hp.take k) h 0

set_option maxRecDepth 100000 in
set_option maxHeartbeats 4000000 in
theorem runSt_any {v u pv : Value} {ms : List (Int × List Int)} {ps st : List Int} {t : Int} (n : Nat) (w : World) (ha : SlM w v ms) (hu : SlI w u st) (hst : ∀ x ∈ st, 0 ≤ x ∧ x < (n : Int)) (hs0 : 0 < st.length) (hs1 : st.length ≤ 100) (hp : SlI w pv ps) (hv : mapsOk n t ms) (hpb : PicksB ms.length ps) (hpl : ps.length ≤ 100) :
    Calls Try.prog 48 #[.agg #[.int .i64 n, .int .i64 t, v], u, pv, .int .i64 1, .func (.func 49) #[] #[]] w fun e w' => e = .returned (tupJ (runR (fun k => k + 1) ps.length (pastS ms st ps))) ∧ Below w.heap.size w w' := by
  have HA := Lib.hid (fun W (h : Below w.heap.size w W) => ha.below h)
  have HU := Lib.hid (fun W (h : Below w.heap.size w W) => hu.below h)
  have HP := Lib.hid (fun W (h : Below w.heap.size w W) => hp.below h)
  obtain ⟨a, ca, rfl, _, _⟩ := ha.form
  obtain ⟨pa, pc, rfl, hpc, _, _⟩ := id hp
  have BX := Lib.hid (mpBelow w n t (.slice a ms.length ca))
  have X := Lib.hid (MpAt.new w n t (.slice a ms.length ca))
  obtain ⟨⟨hn1, hn2⟩, _⟩ := id hv
  have HV := Lib.hid hv
  have HPB := Lib.hid hpb
  have hul : 0 < st.length := hs0
  have HST := Lib.hid hst
  obtain ⟨fb, fo, fc, rfl, g0⟩ := (hu.below BX.out).first hul
  have hn0 : (0 : Int) < (st.length : Int) := by omega
  have hn0' : 0 < st.length := hs0
  have HUL := Lib.hid hul
  have hR := Lib.hid (show allAs st = true → runR (fun k => k + 1) ps.length (pastS ms st ps) = (hdI st, 0, 0) from fun h => by unfold runR; rw [show pastS ms st ps 0 = st from pastS_zero ms st ps, if_pos h])
  have hR2 := Lib.hid (show allAs st = false → runR (fun k => k + 1) ps.length (pastS ms st ps) = runGo (fun k => k + 1) ps.length (pastS ms st ps) (ps.length + 1) 1 from fun h => by unfold runR; rw [show pastS ms st ps 0 = st from pastS_zero ms st ps, h]; rfl)
  generalize runR (fun k => k + 1) ps.length (pastS ms st ps) = RES at hR hR2 ⊢
  generalize hm : allAs st = M at hR hR2
  have HM := Lib.hid hm
  clear hm hv ha hu hp hpb hul hst
  cases M
  · have HRES := Lib.hid (hR2.out rfl)
    clear hR hR2 g0
    go_enter Try.func48, Try.ntmps48
    go_wp2_with fail
    refine (allSame_any _ (HU.out _ BX.out) HUL.out).mono ?_
    rintro e w1 ⟨rfl, rfl⟩
    rw [HM.out]
    go_wp2
    go_loopw [13] (fun i wr => ∃ (k F : Nat), 1 ≤ k ∧ k ≤ 2 * ps.length + 1 ∧ i = .int .i64 k ∧ Hid (ps.length < k + F) ∧ Hid (RES = runGo (fun k => k + 1) ps.length (pastS ms st ps) F k) ∧ Below (w.alloc (.cells #[.int .i64 n, .int .i64 t, .slice a ms.length ca] 26)).heap.size (w.alloc (.cells #[.int .i64 n, .int .i64 t, .slice a ms.length ca] 26)) wr) (fun i _ => 2 * ps.length + 2 - (intOf i).toNat)
    case atStart => exact ⟨1, ps.length + 1, Nat.le_refl _, by omega, rfl, Lib.hid (by omega), HRES, Below.refl _ _⟩
    case round =>
      obtain ⟨k, F, hk1, hk2, rfl, hF, hres, hbw⟩ := hrel
      have HBW := Lib.hid hbw
      by_cases hkl : k ≤ ps.length
      · obtain ⟨x0, x1, x2, x3⟩ := X.out.below hbw
        have bw2 := BX.out.trans (hbw.mono BX.out.size)
        have HPT := Lib.hid ((HP.out _ bw2).takeJ (i := k) hkl)
        have HU2 := Lib.hid (HU.out _ bw2)
        have BW2 := Lib.hid bw2
        obtain ⟨hin, hlen⟩ := pastS_in HV.out HPB.out HST.out k
        have hhit := runGo_hit (nx := fun k => k + 1) (f := pastS ms st ps) hkl hF.out
        have hmiss := runGo_miss (nx := fun k => k + 1) (f := pastS ms st ps) hkl hF.out
        rw [← hres.out] at hhit hmiss
        have HHIT := Lib.hid hhit
        have HMISS := Lib.hid hmiss
        have i0 : (0 : Int) ≤ (k : Int) := by omega
        have i1 : (k : Int) ≤ (ps.length : Int) := by omega
        have i2 : (k : Int) ≤ (pc : Int) := by omega
        have k0 := fun d os => cell_regrown x1 d os
        have k1 := fun d os => cell_regrown x2 d os
        have k2 := fun d os => cell_regrown x3 d os
        clear x0 hbw bw2 hhit hmiss hin
        go_wp2_with fail
        go_region_law (first
          | (go_simp; go_at_call 82; refine (fromPast_any _ ((HA.out _ BW2.out).below (by (repeat (first | exact Below.refl _ _ | refine Below.drew ?_ | refine Below.alloc ?_ (by simp) _)))) (HU2.out.below (by (repeat (first | exact Below.refl _ _ | refine Below.drew ?_ | refine Below.alloc ?_ (by simp) _)))) (HPT.out.below (by (repeat (first | exact Below.refl _ _ | refine Below.drew ?_ | refine Below.alloc ?_ (by simp) _)))) HV.out HST.out (by omega) (HPB.out.take k) (by rw [List.length_take]; omega)).mono ?_; rintro e w4 ⟨r, rfl, o4, b4⟩; have bw4 := below_of (a := wr) (by (repeat (first | exact Below.refl _ _ | refine Below.drew ?_ | refine Below.alloc ?_ (by simp) _))) b4)
          | fail "no arm")
        all_goals
          have HB9 := Lib.hid (HBW.out.trans (bw4.mono HBW.out.size))
          rw [← pastS_def] at o4
          generalize pastS ms st ps k = R at o4 HHIT HMISS hlen
          have hrl : 0 < R.length := by omega
          obtain ⟨rb, ro, rc, rfl, q0⟩ := o4.first hrl
          rw [hlen] at o4 ⊢
          have O4 := Lib.hid o4
          have HRL := Lib.hid hrl
          generalize hm2 : allAs R = M2 at HHIT HMISS
          have HM2 := Lib.hid hm2
          have r0 : IntKind.i64.wrap (k : Int) = (k : Int) := IntWalk.i64_in _ (by omega)
          clear o4 b4 bw4 k0 k1 k2 x1 x2 x3 hlen hrl hm2
          cases M2
          · obtain ⟨F', hF1, hF2⟩ := HMISS.out rfl
            have HF1 := Lib.hid hF1
            have HF2 := Lib.hid hF2
            clear hF1 hF2 q0
            go_wp2_with fail
            refine (allSame_any _ O4.out HRL.out).mono ?_
            rintro e w5 ⟨rfl, rfl⟩
            rw [HM2.out]
            go_wp2_with fail
            refine (nextPast_any k _ (by omega)).mono ?_
            rintro e w5 ⟨rfl, rfl⟩
            go_wp2
            go_roundw
            case rel => exact ⟨k + 1, F', by omega, by omega, by go_num, Lib.hid (by have := hF.out; have := HF2.out; omega), HF1, HB9.out⟩
            case measure => simp [intOf]; omega
          · have HH := Lib.hid (HHIT.out rfl)
            go_wp2_with fail
            refine (allSame_any _ O4.out HRL.out).mono ?_
            rintro e w5 ⟨rfl, rfl⟩
            rw [HM2.out]
            go_wp2
            go_ret3
            exact ⟨by rw [HH.out]; rfl, BX.out.trans (HB9.out.mono BX.out.size)⟩
      · have HH := Lib.hid (hres.out.trans (runGo_out (by omega)))
        have i1 : ¬ (k : Int) ≤ (ps.length : Int) := by omega
        go_wp2
        go_ret3
        exact ⟨by rw [HH.out]; rfl, BX.out.trans (HBW.out.mono BX.out.size)⟩
  · have HRES := Lib.hid (hR.out rfl)
    clear hR hR2
    go_enter Try.func48, Try.ntmps48
    go_wp2_with fail
    refine (allSame_any _ (HU.out _ BX.out) HUL.out).mono ?_
    rintro e w1 ⟨rfl, rfl⟩
    rw [HM.out]
    go_wp2
    go_ret3
    exact ⟨by rw [HRES.out]; rfl, BX.out⟩

set_option maxRecDepth 100000 in
set_option maxHeartbeats 4000000 in
theorem l05LeastSt_any {v u pv : Value} {ms : List (Int × List Int)} {ps st : List Int} {t : Int} (n b : Nat) (w : World) (hb : MpAt w b n t v) (ha : SlM w v ms) (hu : SlI w u st) (hst : ∀ x ∈ st, 0 ≤ x ∧ x < (n : Int)) (hs0 : 0 < st.length) (hs1 : st.length ≤ 100) (hp : SlI w pv ps) (hv : mapsOk n t ms) (hpb : PicksB ms.length ps) (hpl : ps.length ≤ 100) :
    Calls Try.prog 57 #[.pointer (some ⟨b, 0, none⟩), u, pv] w fun e w' => e = .returned (tupJ (firstR ps.length (pastS ms st ps))) ∧ Below w.heap.size w w' := by
  have HA := Lib.hid (fun W (h : Below w.heap.size w W) => ha.below h)
  have X := Lib.hid hb
  have HP := Lib.hid (fun W (h : Below w.heap.size w W) => hp.below h)
  have HU := Lib.hid (fun W (h : Below w.heap.size w W) => hu.below h)
  obtain ⟨pa, pc, rfl, _, _, _⟩ := id hp
  obtain ⟨⟨hn1, hn2⟩, _⟩ := id hv
  have HV := Lib.hid hv
  have HPB := Lib.hid hpb
  have HST := Lib.hid hst
  clear hv ha hu hp hpb hb hst
  go_enter Try.func57, Try.ntmps57
  go_wp2
  go_loopw [9] (fun k wr => ∃ (j : Nat), j ≤ ps.length + 1 ∧ k = .int .i64 j ∧ Hid (∀ i, i < j → allAs (pastS ms st ps i) = false) ∧ Below w.heap.size w wr) (fun k _ => ps.length + 1 - (intOf k).toNat)
  case atStart => exact ⟨0, Nat.zero_le _, rfl, Lib.hid (fun i hi => absurd hi (by omega)), Below.refl _ _⟩
  case round =>
    obtain ⟨j, hj, rfl, hno, hbw⟩ := hrel
    have HBW := Lib.hid hbw
    by_cases hjl : j ≤ ps.length
    · obtain ⟨hin, hlen⟩ := pastS_in HV.out HPB.out HST.out j
      have i9 : (j : Int) ≤ (ps.length : Int) := by omega
      have HFS := Lib.hid (fun h1 h2 => firstR_some (n := ps.length) (f := pastS ms st ps) (k := j) hjl h1 h2)
      have HM9 := Lib.hid (show allAs (pastS ms st ps j) = false → ∀ i, i < j + 1 → allAs (pastS ms st ps i) = false from fun h i hi => by
        by_cases hij : i = j
        · subst hij; exact h
        · exact hno.out i (by omega))
      go_wp2_with fail
      refine (l05Back_any b j _ (X.out.below HBW.out) (HA.out _ HBW.out) (HU.out _ HBW.out) (HP.out _ HBW.out) HV.out HST.out (by omega) HPB.out hpl hjl).mono ?_
      rintro e w2 ⟨r, rfl, o2, b2⟩
      rw [← pastS_def] at o2
      generalize pastS ms st ps j = R at o2 HFS HM9 hlen
      have B2 := Lib.hid (HBW.out.trans (b2.mono HBW.out.size))
      have O2 := Lib.hid o2.sl
      have hrl := Lib.hid (show 0 < R.length by omega)
      generalize hm : allAs R = M at HFS HM9
      have HM := Lib.hid hm
      obtain ⟨ra, rc, rfl, _, _, _⟩ := id O2.out
      clear hm o2 b2 hbw hin hlen
      go_wp2_with fail
      refine (l05Equal_any _ O2.out).mono ?_
      rintro e w3 ⟨rfl, b3⟩
      rw [HM.out]
      have B3 := Lib.hid (B2.out.trans (b3.mono B2.out.size))
      obtain ⟨rb, ro, rc', he, g0⟩ := (O2.out.below b3).first hrl.out
      simp only [Value.slice.injEq] at he
      obtain ⟨rfl, _, _⟩ := he
      have hrl' := hrl.out
      have hrl2 : (0 : Int) < (R.length : Int) := by omega
      clear b3
      cases M
      · go_wp2
        go_roundw
        case rel => exact ⟨j + 1, by omega, by go_num, Lib.hid (HM9.out (by simp)), B3.out⟩
        case measure => simp [intOf]; omega
      · have HR := Lib.hid (HFS.out (by simp) hno.out)
        go_wp2
        go_ret3
        exact ⟨by rw [HR.out]; rfl, B3.out⟩
    · have hR := Lib.hid (firstR_none (n := ps.length) (f := pastS ms st ps) (fun i hi => hno.out i (by omega)))
      have i9 : ¬ (j : Int) ≤ (ps.length : Int) := by omega
      go_wp2
      go_ret3
      exact ⟨by rw [hR.out]; rfl, hbw⟩
end Go.Proofs.Ytceobhmbnkheiaa
