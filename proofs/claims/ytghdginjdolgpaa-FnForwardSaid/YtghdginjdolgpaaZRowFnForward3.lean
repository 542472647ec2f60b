/-
  Draws from a seed. With it: FnDraws: plain part: how many draws lead to each state, and a run by draws. What the laws draw: one of some numbers, rows of weights, picks, draws. A region that draws its order: what only reads is taken first under a condition on the world; what changes the world in one forced order, keeps the condition, but for the last operations, in front of which all that reads has come up. Maps (a weight and where each state goes): lists of them read, owned, grown; which are valid. slices.Max, slices.Min, allSame.
-/
import Derived.Test.YtghdginjdolgpaaZRowFnForward2
import Derived.OrdersHeld
import Derived.StillTail
import Derived.Test.YtghdginjdolgpaaZRowFnForward1
set_option linter.unusedVariables false
set_option linter.unusedSimpArgs false
namespace Go.Proofs.Ytghdginjdolgpaa
open Go.RowKit Go.Sort
theorem gD_at {α : Type} {l : List α} {k : Nat} {d : α} (h : k < l.length) : l.getD k d = l[k] := by
  rw [List.getD_eq_getElem?_getD, List.getElem?_eq_getElem h]; rfl
theorem toFrom_at : ∀ (r : List Int) (d q : Int) (k i : Nat), q ≤ d → toFrom r d q k = some i → k ≤ i ∧ i - k < r.length ∧ q + (r.take (i - k)).sum ≤ d ∧ d < q + (r.take (i - k + 1)).sum
  | [], _, _, _, _, _, h => by simp [toFrom] at h
  | x :: r, d, q, k, i, hq, h => by
    unfold toFrom at h
    split at h
    · rename_i hlt
      simp at h
      subst h
      simp
      omega
    · rename_i hge
      obtain ⟨h1, h2, h3, h4⟩ := toFrom_at r d (q + x) (k + 1) i (by omega) h
      obtain ⟨j, rfl⟩ : ∃ j, i = k + 1 + j := ⟨i - (k + 1), by omega⟩
      have e1 : k + 1 + j - (k + 1) = j := by omega
      have e2 : k + 1 + j - k = j + 1 := by omega
      rw [e1] at h2 h3 h4
      rw [e2]
      simp only [List.take_succ_cons, List.sum_cons, List.length_cons]
      omega
theorem take_mono {r : List Int} (h : ∀ x ∈ r, 0 ≤ x) : ∀ {a b : Nat}, a ≤ b → (r.take a).sum ≤ (r.take b).sum := by
  intro a b hab
  obtain ⟨c, rfl⟩ : ∃ c, b = a + c := ⟨b - a, by omega⟩
  clear hab
  induction c with
  | zero => exact Int.le_refl _
  | succ c ih =>
    by_cases hl : a + c < r.length
    · have := sum_succ (r := r) hl
      have h2 := h _ (List.getElem_mem hl)
      rw [show a + (c + 1) = a + c + 1 by omega, this]
      omega
    · rw [List.take_of_length_le (show r.length ≤ a + (c + 1) by omega)]
      rw [List.take_of_length_le (show r.length ≤ a + c by omega)] at ih
      exact ih
/-- how many of the first n draws lead to each state -/
def cntD (r : List Int) : Nat → List Int
  | 0 => List.replicate r.length 0
  | n + 1 => (cntD r n).set ((toOf r n).getD 0) ((cntD r n).getD ((toOf r n).getD 0) 0 + 1)
theorem cntD_len (r : List Int) : ∀ n, (cntD r n).length = r.length
  | 0 => by simp [cntD]
  | n + 1 => by unfold cntD; rw [List.length_set, cntD_len r n]
theorem cntD_get {r : List Int} (h : ∀ x ∈ r, 0 ≤ x) (hne : r ≠ []) : ∀ (n : Nat), (n : Int) ≤ r.sum → ∀ j (hj : j < r.length), (cntD r n).getD j 0 = max 0 (min ((n : Int) - (r.take j).sum) r[j])
  | 0, _, j, hj => by
    have hz : (cntD r 0).getD j 0 = 0 := by
      unfold cntD
      rw [List.getD_eq_getElem?_getD, List.getElem?_replicate]
      split <;> rfl
    rw [hz]
    have := take_mono h (Nat.zero_le j)
    simp at this
    simp
    omega
  | n + 1, hs, j, hj => by
    have ih := cntD_get h hne n (by omega) j hj
    obtain ⟨i, hi, _, hil⟩ := toFrom_lt r (n : Int) 0 0 (by omega) hne h
    have hto : toOf r n = some i := hi
    obtain ⟨_, _, h3, h4⟩ := toFrom_at r n 0 0 i (by omega) hi
    simp only [Nat.sub_zero, Int.zero_add] at h3 h4
    have hil2 : i < r.length := by omega
    have hsi := sum_succ (r := r) hil2
    have hsj := sum_succ (r := r) hj
    unfold cntD
    rw [hto, Option.getD_some]
    by_cases e : j = i
    · subst e
      rw [List.getD_eq_getElem?_getD, List.getElem?_set, if_pos rfl, if_pos (by rw [cntD_len]; exact hj)]
      simp only [Option.getD_some]
      rw [ih]
      simp only [Int.natCast_add]
      omega
    · have hset : ((cntD r n).set i ((cntD r n).getD i 0 + 1)).getD j 0 = (cntD r n).getD j 0 := by
        rw [List.getD_eq_getElem?_getD, List.getElem?_set, if_neg (by omega), List.getD_eq_getElem?_getD]
      rw [hset, ih]
      simp only [Int.natCast_add]
      rcases Nat.lt_or_gt_of_ne e with hlt | hgt
      · have := take_mono h (show j + 1 ≤ i by omega)
        omega
      · have := take_mono h (show i + 1 ≤ j by omega)
        omega
theorem cntD_all {r : List Int} (h : ∀ x ∈ r, 0 ≤ x) (hne : r ≠ []) {t : Nat} (ht : r.sum = (t : Int)) : cntD r t = r := by
  refine List.ext_getElem (cntD_len r t) (fun j h1 h2 => ?_)
  have := cntD_get h hne t (by omega) j h2
  rw [gD_at (show j < (cntD r t).length from h1)] at this
  rw [this]
  have hsj := sum_succ (r := r) h2
  have hm := take_mono h (show j + 1 ≤ r.length by omega)
  rw [List.take_length] at hm
  have h0 := h _ (List.getElem_mem h2)
  omega
/-- a run by the first k draws -/
def runN (xss : List (List Int)) (s : Int) (ds : List Int) : Nat → List Int
  | 0 => [s]
  | k + 1 => runN xss s ds k ++ [nxt xss (ds.getD k 0) ((runN xss s ds k).getD k 0)]
theorem runN_len (xss : List (List Int)) (s : Int) (ds : List Int) : ∀ k, (runN xss s ds k).length = k + 1
  | 0 => rfl
  | k + 1 => by unfold runN; rw [List.length_append, runN_len xss s ds k]; rfl
theorem runN_get {xss : List (List Int)} {s : Int} {ds : List Int} {j : Nat} : ∀ {k : Nat}, j ≤ k → (runN xss s ds k).getD j 0 = (runN xss s ds j).getD j 0
  | 0, h => by obtain rfl : j = 0 := by omega
               rfl
  | k + 1, h => by
    by_cases e : j = k + 1
    · subst e; rfl
    · rw [← runN_get (show j ≤ k by omega)]
      conv => lhs; unfold runN
      rw [List.getD_eq_getElem?_getD, List.getElem?_append_left (by rw [runN_len]; omega), List.getD_eq_getElem?_getD]
theorem runN_next {xss : List (List Int)} {s : Int} {ds : List Int} {j k : Nat} (h : j < k) : (runN xss s ds k).getD (j + 1) 0 = nxt xss (ds.getD j 0) ((runN xss s ds k).getD j 0) := by
  rw [runN_get (show j + 1 ≤ k by omega), runN_get (show j ≤ k by omega)]
  conv => lhs; unfold runN
  rw [List.getD_eq_getElem?_getD, List.getElem?_append_right (by rw [runN_len]; omega), runN_len]
  simp
theorem runN_zero {xss : List (List Int)} {s : Int} {ds : List Int} {k : Nat} : (runN xss s ds k).getD 0 0 = s := by rw [runN_get (Nat.zero_le k)]; rfl
theorem runN_in {s t : Int} {xss : List (List Int)} (h : chainOk s t xss = true) {x : Int} (hx : 0 ≤ x ∧ x < xss.length) {ds : List Int} (hd : DrawsB t ds) : ∀ k, k ≤ ds.length → InN xss.length (runN xss x ds k)
  | 0, _ => by intro y hy; simp [runN] at hy; subst hy; exact hx
  | k + 1, hk => by
    have ih := runN_in h hx hd k (by omega)
    intro y hy
    unfold runN at hy
    simp only [List.mem_append, List.mem_singleton] at hy
    rcases hy with hy | rfl
    · exact ih y hy
    · have hkl : k < (runN xss x ds k).length := by rw [runN_len]; omega
      have hm := ih _ (List.getElem_mem hkl)
      have hdk := hd _ (List.getElem_mem (show k < ds.length by omega))
      rw [gD_at hkl, gD_at (show k < ds.length by omega)]
      obtain ⟨z, hz⟩ := Int.eq_ofNat_of_zero_le hm.1
      rw [hz] at hm ⊢
      have := stepAll_in h hdk (l := [(z : Int)]) (fun y hy => by simp at hy; subst hy; exact hm)
      exact this _ (by simp [stepAll])
end Go.Proofs.Ytghdginjdolgpaa
namespace Go.Proofs.Ytghdginjdolgpaa
open Go.RowKit Go.Sort

set_option maxHeartbeats 1000000 in
theorem among_any (b K : Nat) {u : Value} {xs : List Int} (w : World) (hs : SrcB w b K) (hK : K ≤ 900000000) (hu : ∀ W, Fs (fun k => k = b) w W → SlI W u xs) (hx : 1 ≤ xs.length) (hl : xs.length ≤ 1000) :
    Calls Try.prog 71 #[.pointer (some ⟨b, 0, none⟩), u] w fun e w' => ∃ x, x ∈ xs ∧ e = .returned (.int .i64 x) ∧ SrcB w' b (K + 2) ∧ Fs (fun k => k = b) w w' := by
  have HU := Lib.hid hu
  have HS := Lib.hid hs
  obtain ⟨a, c, rfl, _⟩ := hu w (Fs.refl _ _)
  clear hu hs
  go_enter Try.func71, Try.ntmps71
  go_wp2_with fail
  refine (pick_any b K xs.length _ HS.out hK).mono ?_
  rintro e w1 ⟨y, rfl, hy0, hy1, s1, f1⟩
  obtain ⟨y, rfl⟩ := Int.eq_ofNat_of_zero_le hy0
  have hyl : y < xs.length := by omega
  have i0 : (0 : Int) ≤ (y : Int) := by omega
  have i1 : (y : Int) < (xs.length : Int) := by omega
  obtain ⟨_, _, he, _, _, rd⟩ := HU.out _ f1
  simp only [Value.slice.injEq] at he
  obtain ⟨rfl, _, rfl⟩ := he
  obtain ⟨b1, o1, rfl, g1⟩ := rd.one (i64s_get hyl)
  have hm := List.getElem_mem hyl
  generalize xs[y] = x at g1 hm
  clear rd
  go_wp2
  go_ret
  exact ⟨x, hm, rfl, s1, f1⟩
theorem sum_set {n : Int} : ∀ {r : List Int} {z : Nat} (h : z < r.length), (r.set z (r[z] + n)).sum = r.sum + n
  | [], _, h => by simp at h
  | x :: r, 0, _ => by simp; omega
  | x :: r, z + 1, h => by
    have ih := sum_set (n := n) (r := r) (z := z) (by simpa using h)
    simp only [List.set_cons_succ, List.sum_cons, List.getElem_cons_succ]
    omega

set_option maxHeartbeats 2000000 in
theorem l01Row_any (b K m t : Nat) (w : World) (hs : SrcB w b K) (hK : K ≤ 1000000) (hm1 : 1 ≤ m) (hm : m ≤ 6) (ht : t ≤ 60) :
    Calls Try.prog 72 #[.pointer (some ⟨b, 0, none⟩), .int .i64 m, .int .i64 t] w fun e w' => ∃ (v : Value) (r : List Int), e = .returned v ∧ r.length = m ∧ (∀ x ∈ r, 0 ≤ x ∧ x ≤ t) ∧ r.sum = t ∧ OwnI w' w.heap.size v r ∧ SrcB w' b (K + 4 * t) ∧ Fs (fun k => k = b) w w' := by
  have hbw := hs.lt
  have HS := Lib.hid hs
  clear hs
  go_enter Try.func72, Try.ntmps72
  go_wp2_with (at_make; refine make_i64 w _ _ rfl rfl m rfl rfl rfl rfl (by omega) ?_)
  intro w1 o1 b1 z1
  have s1 := Lib.hid (HS.out.below b1)
  have f1 := Lib.hid (Fs.of_below (S := fun k => k = b) b1)
  have O1 := Lib.hid o1
  clear o1 b1
  go_wp2
  go_loopw [8, 9] (fun l _ wr => ∃ (q : Nat) (r : List Int), q ≤ t ∧ l = .int .i64 q ∧ r.length = m ∧ (∀ x ∈ r, 0 ≤ x ∧ x ≤ (t : Int) - q) ∧ Hid (r.sum = (t : Int) - q) ∧ OwnI wr w.heap.size (.slice (some ⟨w.heap.size, 0, none⟩) m m) r ∧ SrcB wr b (K + 4 * (t - q)) ∧ Fs (fun k => k = b) w wr) (fun l _ _ => (intOf l).toNat)
  case atStart => exact ⟨t, List.replicate m 0, Nat.le_refl _, rfl, by simp, fun x hx => by rw [List.eq_of_mem_replicate hx]; omega, Lib.hid (by simp), O1.out, s1.out.more (by omega), f1.out⟩
  case round =>
    clear O1 s1 f1
    obtain ⟨q, r, hq, rfl, hrl, hin, hsum, hown, hsrc, hf⟩ := hrel
    have HRL := Lib.hid hrl
    have HIN := Lib.hid hin
    have HO := Lib.hid hown
    have HF := Lib.hid hf
    clear hin hown hf hrl
    by_cases hq0 : 0 < q
    · have i0 : (0 : Int) < (q : Int) := by omega
      go_wp2_with fail
      refine (pick_any b _ q _ hsrc (by omega)).mono ?_
      rintro e w2 ⟨y, rfl, hy0, hy1, s2, f2⟩
      obtain ⟨y, rfl⟩ := Int.eq_ofNat_of_zero_le hy0
      obtain ⟨n, hn⟩ : ∃ n, n = y + 1 := ⟨_, rfl⟩
      have hnq : n ≤ q := by omega
      have hn1 : 1 ≤ n := by omega
      have r1 : IntKind.i64.wrap (1 + (y : Int)) = (n : Int) := by rw [IntWalk.i64_in _ (by omega)]; omega
      clear hy0 hy1 hn
      go_wp2_with fail
      refine (pick_any b _ m _ s2 (by omega)).mono ?_
      rintro e w3 ⟨z, rfl, hz0, hz1, s3, f3⟩
      obtain ⟨z, rfl⟩ := Int.eq_ofNat_of_zero_le hz0
      have hzm : z < m := by omega
      have hzr : z < r.length := by rw [HRL.out]; exact hzm
      have F3 := Lib.hid ((HF.out.trans f2).trans f3)
      have o3 := (HO.out.fs f2 (fun k hk => by omega)).fs f3 (fun k hk => by omega)
      have c3 := o3.cell hzr
      have fr3 := o3.free z
      have hcv := HIN.out _ (List.getElem_mem hzr)
      have hss := sum_set (n := (n : Int)) hzr
      have hos := o3.set z (r[z] + n)
      have hmem : ∀ x ∈ r.set z (r[z] + n), x ∈ r ∨ x = r[z] + n := fun x hx => List.mem_or_eq_of_mem_set hx
      generalize r[z] = cv at c3 hcv hss hos hmem
      have r2 : IntKind.i64.wrap (cv + (n : Int)) = cv + n := IntWalk.i64_in _ (by omega)
      have r3 : IntKind.i64.wrap ((q : Int) - (n : Int)) = ((q - n : Nat) : Int) := by rw [IntWalk.i64_in _ (by omega)]; omega
      have i1 : (0 : Int) ≤ (z : Int) := by omega
      have i2 : (z : Int) < (m : Int) := by omega
      have HSS := Lib.hid hss
      have HOS := Lib.hid hos
      have HMEM := Lib.hid hmem
      have HCV := Lib.hid hcv
      have S3 := Lib.hid s3
      clear hss hos hmem o3 f2 f3 s3 s2 hz0 hz1 hcv hsrc
      go_wp2
      go_roundw
      case rel => exact ⟨q - n, r.set z (cv + n), by omega, by go_num, by rw [List.length_set]; exact HRL.out, fun x hx => by
        rcases HMEM.out x hx with h | h
        · have := HIN.out x h; omega
        · have := HCV.out; omega, Lib.hid (by have := hsum.out; rw [HSS.out]; omega), HOS.out, (S3.out.fs (Fs.set (S := fun k => k = w.heap.size) (Fs.refl _ _) (a := ⟨w.heap.size, z, none⟩) rfl _) (fun k hk => by omega)).more (by omega), ⟨F3.out.os, F3.out.tape, F3.out.output, by simpa using F3.out.size, fun k hk hx => by
          rw [← F3.out.block k hk hx]
          exact Below.heap_setCell _ _ _ _ (show k ≠ w.heap.size by omega)⟩⟩
      case measure => simp [intOf]; omega
    · obtain rfl : q = 0 := by omega
      go_wp2
      go_ret
      exact ⟨_, r, rfl, HRL.out, fun x hx => by have := HIN.out x hx; omega, by have := hsum.out; omega, HO.out, hsrc.more (by omega), HF.out⟩

set_option maxHeartbeats 2000000 in
theorem P6Draws_any {xs : List Int} (ad : Option Addr) (n c t most : Nat) (w : World) (hn : n ≤ 4096) (hx : xs.length = n) (hr : Rd w ad (xs.map (.int .u8))) (hb : ∀ x ∈ xs, 0 ≤ x ∧ x < 256) (ht : 1 ≤ t) (hmo : most ≤ 100) :
    Calls Try.prog 18 #[.slice ad n c, .int .i64 t, .int .i64 most] w fun e w' => ∃ (v : Value) (ds : List Int), e = .returned v ∧ DrawsB t ds ∧ ds.length ≤ most ∧ OwnI w' w.heap.size v ds ∧ Below w.heap.size w w' := by
  have HR := Lib.hid hr
  have HB := Lib.hid hb
  have HX := Lib.hid hx
  clear hr hb hx
  go_enter Try.func18, Try.ntmps18
  go_wp2_with fail
  refine (l00From_any ad n c _ hn HX.out HR.out HB.out).mono ?_
  rintro e w1 ⟨rfl, s1, b1⟩
  have hz1 := s1.lt
  have own0 := Lib.hid (OwnI.empty w1 (base := w1.heap.size) (Nat.le_refl _))
  have s2 := Lib.hid (s1.below ((Below.refl w1.heap.size w1).alloc (Nat.le_refl _) (.cells #[] 2)))
  have f2 := Lib.hid (Fs.of_below (S := fun k => k = w.heap.size) ((Below.refl w1.heap.size w1).alloc (Nat.le_refl _) (.cells #[] 2)))
  have B1 := Lib.hid b1
  have r1 : IntKind.i64.wrap ((most : Int) + 1) = ((most + 1 : Nat) : Int) := by rw [IntWalk.i64_in _ (by omega)]; simp
  clear s1 b1
  go_wp2_with fail
  refine (pick_any w.heap.size 0 ((most + 1 : Nat) : Int) _ s2.out (by omega)).mono ?_
  rintro e w3 ⟨y, rfl, hy0, hy1, s3, f3⟩
  obtain ⟨y, rfl⟩ := Int.eq_ofNat_of_zero_le hy0
  have hym : y ≤ most := by omega
  have o3 := Lib.hid (own0.out.fs f3 (fun k hk => by omega))
  have F3 := Lib.hid (f2.out.trans f3)
  have S3 := Lib.hid s3
  clear hy0 hy1 s3 f3
  go_wp2
  go_loopw [8, 9] (fun v i wr => ∃ (q : Nat) (ds : List Int), q ≤ y ∧ i = .int .i64 q ∧ ds.length + q = y ∧ DrawsB t ds ∧ OwnI wr w1.heap.size v ds ∧ SrcB wr w.heap.size (2 + 2 * ds.length) ∧ Fs (fun k => k = w.heap.size) w1 wr) (fun _ i _ => (intOf i).toNat)
  case atStart => exact ⟨y, [], Nat.le_refl _, rfl, by simp, by intro d hd; simp at hd, o3.out, S3.out, F3.out⟩
  case round =>
    clear o3 S3 F3
    obtain ⟨q, ds, hq, rfl, hql, hdb, hown, hsrc, hf⟩ := hrel
    have HDB := Lib.hid hdb
    have HO := Lib.hid hown
    have HF := Lib.hid hf
    clear hdb hown hf
    by_cases hq0 : 0 < q
    · have i0 : (0 : Int) < (q : Int) := by omega
      go_wp2_with fail
      refine (pick_any w.heap.size _ t _ hsrc (by omega)).mono ?_
      rintro e w4 ⟨d, rfl, hd0, hd1, s4, f4⟩
      have o4 := HO.out.fs f4 (fun k hk => by omega)
      have F4 := Lib.hid (HF.out.trans f4)
      have S4 := Lib.hid s4
      have hz4 : w1.heap.size ≤ w4.heap.size := F4.out.size
      have hln : ds.length < 16777216 := by omega
      have r3 : IntKind.i64.wrap ((q : Int) - 1) = ((q - 1 : Nat) : Int) := by rw [IntWalk.i64_in _ (by omega)]; omega
      clear s4 f4 hsrc
      go_wp2_with (at_builtin; refine append_i64 _ d _ _ rfl rfl rfl o4 rfl hln hz4 ?_)
      intro v5 w5 o5 b5 z5
      have hb5 : Below w1.heap.size w4 w5 := ((Below.refl w1.heap.size w4).alloc hz4 _).trans b5
      have F5 := Lib.hid (show Fs (fun k => k = w.heap.size) w1 w5 from ⟨hb5.os.trans F4.out.os, hb5.tape.trans F4.out.tape, hb5.output.trans F4.out.output, Nat.le_trans F4.out.size hb5.size, fun k hk hx => (hb5.block k hk).trans (F4.out.block k hk hx)⟩)
      have S5 := Lib.hid (S4.out.fs (S := fun k => w1.heap.size ≤ k) (w' := w5) ⟨hb5.os, hb5.tape, hb5.output, hb5.size, fun k hk hx => hb5.block k (by omega)⟩ (fun k hk => by omega))
      clear b5 hb5
      go_wp2
      go_roundw
      case rel => exact ⟨q - 1, ds ++ [d], by omega, by go_num, by simp; omega, fun x hx => by
        simp only [List.mem_append, List.mem_singleton] at hx
        rcases hx with hx | rfl
        · exact HDB.out x hx
        · omega, o5, S5.out.more (by simp; omega), F5.out⟩
      case measure => simp [intOf]; omega
    · obtain rfl : q = 0 := by omega
      go_wp2
      go_ret
      exact ⟨_, ds, rfl, HDB.out, by omega, HO.out.lower B1.out.size, B1.out.trans (HF.out.below (B := w.heap.size) B1.out.size (fun k hk => by omega))⟩
end Go.Proofs.Ytghdginjdolgpaa
namespace Go.Proofs.Ytghdginjdolgpaa
section
variable {P : Program} {ops : Array Oper} {md : Region.Mode} {C : World → Prop} {ex : List Nat} {Q : Exit → Act → World → Prop}
def wpAnyX (P : Program) (md : Region.Mode) (ops : Array Oper) (Q : Exit → Act → World → Prop) (C : World → Prop) (ex : List Nat) : Nat → Array Bool → Act → World → Prop
  | 0, listed, a, w => Region.ready md ops listed = [] ∧ Q .normal a w
  | fuel + 1, listed, a, w =>
    (Region.ready md ops listed = [] → Q .normal a w) ∧
    ∀ i ∈ Region.ready md ops listed, wpOp P ops Q i (fun a' w' => (i ∉ ex → C w → C w') ∧ wpAnyX P md ops Q C ex fuel (listed.setIfInBounds i true) a' w') a w
theorem wpAny_of_X : ∀ (fuel : Nat) (listed : Array Bool) (a : Act) (w : World), wpAnyX P md ops Q C ex fuel listed a w → wpAny P md ops Q fuel listed a w
  | 0, _, _, _, h => h
  | fuel + 1, _, _, _, h => ⟨h.1, fun i hi => wpOp_mono (fun a' w' h' => wpAny_of_X fuel _ a' w' h'.2) (h.2 i hi)⟩
/-- whatever has come up, what it waits for has -/
def ClosedX (md : Region.Mode) (ops : Array Oper) (listed : Array Bool) : Prop := ∀ j oj, ops[j]? = some oj → listed.getD j false = true → ∀ e ∈ oj.after, Region.binds md e = true → listed.getD e.on false = true
theorem ClosedX.first (n : Nat) : ClosedX md ops (Array.replicate n false) := fun j _ _ hl => by rw [getD_replicate_false] at hl; cases hl
theorem ClosedX.set {i : Nat} {listed : Array Bool} (inv : ClosedX md ops listed) (hi : i ∈ Region.ready md ops listed) : ClosedX md ops (listed.setIfInBounds i true) := by
  obtain ⟨_, oi, hoi, hall⟩ := mem_ready.1 hi
  intro j oj hj hl e he hb
  by_cases hij : i = j
  · subst hij
    have : oj = oi := Option.some.inj (hj.symm.trans hoi)
    subst this
    exact getD_set_true (hall e he hb)
  · rw [getD_set_ne false hij] at hl
    exact getD_set_true (inv j oj hj hl e he hb)
/-- j waits for i, over others -/
def ancX (md : Region.Mode) (ops : Array Oper) : Nat → Nat → Nat → Bool
  | 0, _, _ => false
  | f + 1, j, i => match ops[j]? with
    | some o => o.after.any fun e => Region.binds md e && (e.on == i || ancX md ops f e.on i)
    | none => false
theorem anc_listed {listed : Array Bool} (inv : ClosedX md ops listed) {i : Nat} : ∀ (f j : Nat) (o : Oper), ops[j]? = some o → ancX md ops f j i = true → (∀ e ∈ o.after, Region.binds md e = true → listed.getD e.on false = true) → listed.getD i false = true
  | 0, _, _, _, h, _ => by simp [ancX] at h
  | f + 1, j, o, ho, h, hall => by
    unfold ancX at h
    simp only [ho] at h
    obtain ⟨e, he, hb⟩ := Array.any_eq_true'.1 h
    simp only [Bool.and_eq_true, Bool.or_eq_true, beq_iff_eq] at hb
    have hl := hall e he hb.1
    rcases hb.2 with h2 | h2
    · rw [← h2]; exact hl
    · have ho2 : ∃ o2, ops[e.on]? = some o2 := by
        cases f with
        | zero => simp [ancX] at h2
        | succ f =>
          unfold ancX at h2
          cases ho2 : ops[e.on]? with
          | some o2 => exact ⟨o2, rfl⟩
          | none => simp [ho2] at h2
      obtain ⟨o2, ho2⟩ := ho2
      exact anc_listed inv f e.on o2 ho2 h2 (fun e2 he2 hb2 => inv e.on o2 ho2 hl e2 he2 hb2)
theorem wpAnyX_first {i : Nat} {oi : Oper} {v : Value} (hi : ops[i]? = some oi) (hsel : ∀ (j : Nat) (o : Oper) cs b, ops[j]? = some o → o.op ≠ .select cs b)
    (hQ : ∀ c a w, Q (.panic c) (a.put oi.dst v) w → Q (.panic c) a w) (hex : ∀ e ∈ ex, ∃ f, ancX md ops f e i = true) :
    ∀ (fuel : Nat) (listed : Array Bool) (a : Act) (w : World),
      (∀ j oj, ops[j]? = some oj → j ≠ i → listed.getD j true = false → (∀ e ∈ oj.after, Region.binds md e = true → e.on ≠ i) → oi.apart ops oj = true) →
      ClosedX md ops listed → i ∈ Region.ready md ops listed → YieldsIf P ops C oi v a → C w →
      wpAnyX P md ops Q C ex fuel (listed.setIfInBounds i true) (a.put oi.dst v) w → wpAnyX P md ops Q C ex (fuel + 1) listed a w := by
  intro fuel
  induction fuel with
  | zero =>
    intro listed a w _ _ hr hy hS H
    refine ⟨fun h => (by rw [h] at hr; cases hr), fun j hj => ?_⟩
    by_cases hji : j = i
    · subst hji; exact hy.wpOp hi hS ⟨fun _ h => h, H⟩
    · have := ready_mono hj hji
      rw [H.1] at this
      cases this
  | succ fuel ih =>
    intro listed a w hfree inv hr hy hS H
    refine ⟨fun h => (by rw [h] at hr; cases hr), fun j hj => ?_⟩
    by_cases hji : j = i
    · subst hji; exact hy.wpOp hi hS ⟨fun _ h => h, H⟩
    · have h1 := H.2 j (ready_mono hj hji)
      obtain ⟨hjun, oj, hoj, hall⟩ := mem_ready.1 hj
      have h0 := (mem_ready.1 hr).1
      have hnot : ∀ e ∈ oj.after, Region.binds md e = true → e.on ≠ i := fun e he hb heq => by
        have h1 := hall e he hb
        rw [heq, getD_both h0] at h1
        cases h1
      have hjx : j ∉ ex := fun hx => by
        obtain ⟨f, hf⟩ := hex j hx
        have := anc_listed inv f j oj hoj hf hall
        rw [getD_both h0] at this
        cases this
      have h2 := wpOp_putIf hoj (hfree j oj hoj hji hjun hnot) (fun cs b => hsel i oi cs b hi) (fun cs b => hsel j oj cs b hoj) hQ hy h1
      have hfree' : ∀ k ok, ops[k]? = some ok → k ≠ i → (listed.setIfInBounds j true).getD k true = false →
          (∀ e ∈ ok.after, Region.binds md e = true → e.on ≠ i) → oi.apart ops ok = true := fun k ok hk hki hun hno => by
        refine hfree k ok hk hki ?_ hno
        by_cases hjk : j = k
        · subst hjk; exact hjun
        · rw [getD_set_ne true hjk] at hun; exact hun
      refine wpOp_mono (fun a' w' h3 => ⟨h3.2.1, ih (listed.setIfInBounds j true) a' w' hfree' (inv.set hj) (ready_mono hr (Ne.symm hji)) h3.1 (h3.2.1 hjx hS) ?_⟩) h2
      rw [Array.setIfInBounds_comm _ _ hji]
      exact h3.2.2
/-- the same for what yields its value in whatever world -/
theorem wpAnyX_firstF {i : Nat} {oi : Oper} {v : Value} (hi : ops[i]? = some oi) (hsel : ∀ (j : Nat) (o : Oper) cs b, ops[j]? = some o → o.op ≠ .select cs b)
    (hQ : ∀ c a w, Q (.panic c) (a.put oi.dst v) w → Q (.panic c) a w) :
    ∀ (fuel : Nat) (listed : Array Bool) (a : Act) (w : World),
      (∀ j oj, ops[j]? = some oj → j ≠ i → listed.getD j true = false → (∀ e ∈ oj.after, Region.binds md e = true → e.on ≠ i) → oi.apart ops oj = true) →
      i ∈ Region.ready md ops listed → YieldsIf P ops (fun _ => True) oi v a →
      wpAnyX P md ops Q C ex fuel (listed.setIfInBounds i true) (a.put oi.dst v) w → wpAnyX P md ops Q C ex (fuel + 1) listed a w := by
  intro fuel
  induction fuel with
  | zero =>
    intro listed a w _ hr hy H
    refine ⟨fun h => (by rw [h] at hr; cases hr), fun j hj => ?_⟩
    by_cases hji : j = i
    · subst hji; exact hy.wpOp hi trivial ⟨fun _ h => h, H⟩
    · have := ready_mono hj hji
      rw [H.1] at this
      cases this
  | succ fuel ih =>
    intro listed a w hfree hr hy H
    refine ⟨fun h => (by rw [h] at hr; cases hr), fun j hj => ?_⟩
    by_cases hji : j = i
    · subst hji; exact hy.wpOp hi trivial ⟨fun _ h => h, H⟩
    · have h1 := H.2 j (ready_mono hj hji)
      obtain ⟨hjun, oj, hoj, hall⟩ := mem_ready.1 hj
      have h0 := (mem_ready.1 hr).1
      have hnot : ∀ e ∈ oj.after, Region.binds md e = true → e.on ≠ i := fun e he hb heq => by
        have h1 := hall e he hb
        rw [heq, getD_both h0] at h1
        cases h1
      have h2 := wpOp_putIf hoj (hfree j oj hoj hji hjun hnot) (fun cs b => hsel i oi cs b hi) (fun cs b => hsel j oj cs b hoj) hQ hy h1
      have hfree' : ∀ k ok, ops[k]? = some ok → k ≠ i → (listed.setIfInBounds j true).getD k true = false →
          (∀ e ∈ ok.after, Region.binds md e = true → e.on ≠ i) → oi.apart ops ok = true := fun k ok hk hki hun hno => by
        refine hfree k ok hk hki ?_ hno
        by_cases hjk : j = k
        · subst hjk; exact hjun
        · rw [getD_set_ne true hjk] at hun; exact hun
      refine wpOp_mono (fun a' w' h3 => ⟨h3.2.1, ih (listed.setIfInBounds j true) a' w' hfree' (ready_mono hr (Ne.symm hji)) h3.1 ?_⟩) h2
      rw [Array.setIfInBounds_comm _ _ hji]
      exact h3.2.2
/-! the moves -/
/-- the state of a walk: closed under what is waited for -/
def WX (P : Program) (ops : Array Oper) (Q : Exit → Act → World → Prop) (C : World → Prop) (ex : List Nat) (fuel : Nat) (listed : Array Bool) (a : Act) (w : World) : Prop :=
  ClosedX .any ops listed → wpAnyX P .any ops Q C ex fuel listed a w
def takeB (ops : Array Oper) (listed : Array Bool) (i : Nat) : Bool := Region.noSelect ops && Region.free .any ops listed i && (Region.ready .any ops listed).contains i
theorem wpX_free {i fuel : Nat} {oi : Oper} {v : Value} {listed : Array Bool} {a : Act} {w : World} (hi : ops[i]? = some oi) (hB : takeB ops listed i = true)
    (hQ : ∀ c a w, Q (.panic c) (a.put oi.dst v) w → Q (.panic c) a w) (hw : Region.wanted oi (yielded ops a.tmps) = true) (hy : ∀ w, (execOp a.eval oi).run P w = .ok (.value v) w)
    (h : WX P ops Q C ex fuel (listed.setIfInBounds i true) (a.put oi.dst v) w) : WX P ops Q C ex (fuel + 1) listed a w := fun hc => by
  unfold takeB at hB
  rw [Bool.and_eq_true, Bool.and_eq_true] at hB
  have hr : i ∈ Region.ready .any ops listed := by simpa using hB.2
  exact wpAnyX_firstF hi (Region.noSelect_spec hB.1.1) hQ fuel listed a w (Region.free_spec hi hB.1.2) hr (.inl ⟨hw, fun w _ => hy w⟩) (h (hc.set hr))
theorem wpX_load {i fuel : Nat} {oi : Oper} {v : Value} {listed : Array Bool} {a : Act} {w : World} (hi : ops[i]? = some oi) (hB : (takeB ops listed i && ex.all fun e => ancX .any ops ops.size e i) = true)
    (hQ : ∀ c a w, Q (.panic c) (a.put oi.dst v) w → Q (.panic c) a w) (hC : C w) (hw : Region.wanted oi (yielded ops a.tmps) = true) (hy : ∀ w, C w → (execOp a.eval oi).run P w = .ok (.value v) w)
    (h : WX P ops Q C ex fuel (listed.setIfInBounds i true) (a.put oi.dst v) w) : WX P ops Q C ex (fuel + 1) listed a w := fun hc => by
  rw [Bool.and_eq_true] at hB
  obtain ⟨hB, hx⟩ := hB
  unfold takeB at hB
  rw [Bool.and_eq_true, Bool.and_eq_true] at hB
  have hr : i ∈ Region.ready .any ops listed := by simpa using hB.2
  exact wpAnyX_first hi (Region.noSelect_spec hB.1.1) hQ (fun e he => ⟨ops.size, List.all_eq_true.1 hx e he⟩) fuel listed a w (Region.free_spec hi hB.1.2) hc hr (.inl ⟨hw, hy⟩) hC (h (hc.set hr))
/-- the one that can come up now -/
theorem wpX_one {i fuel : Nat} {oi : Oper} {listed : Array Bool} {a : Act} {w : World} (hi : ops[i]? = some oi) (hr : Region.ready .any ops listed = [i]) (hg : oi.guard = none)
    (h : ∀ K : Act → World → Prop, (∀ a' w', C w' → WX P ops Q C ex fuel (listed.setIfInBounds i true) a' w' → K a' w') → Oper.wp P oi a w K Q) : WX P ops Q C ex (fuel + 1) listed a w := fun hc => by
  refine ⟨fun h0 => (by rw [hr] at h0; cases h0), fun j hj => ?_⟩
  have hri : i ∈ Region.ready .any ops listed := by rw [hr]; simp
  rw [hr] at hj
  have hji : j = i := by simpa using hj
  subst hji
  unfold wpOp
  simp only [hi, Region.wanted, hg, if_true]
  exact .inl (h _ (fun a' w' hC hK => ⟨fun _ _ => hC, hK (hc.set hri)⟩))
def seqX (ops : Array Oper) : List Nat → Array Bool → Bool
  | [], listed => (Region.ready .any ops listed).isEmpty
  | i :: l, listed => decide (Region.ready .any ops listed = [i]) && seqX ops l (listed.setIfInBounds i true)
/-- the last ones, in front of which all that reads has come up -/
theorem wpX_rest : ∀ {t : List Nat} {l : List Oper} {listed : Array Bool} {a : Act} {w : World} (_ : l.map some = t.map (fun i => ops[i]?)) (_ : seqX ops t listed = true) (_ : t.all (fun i => ex.contains i) = true) (_ : wpList P ops Q l a w), WX P ops Q C ex t.length listed a w
  | [], l, listed, a, w, hl, hB, _, h => fun _ => by
    have : l = [] := by simpa using hl
    subst this
    exact ⟨by simpa [seqX] using hB, h⟩
  | i :: t, [], listed, a, w, hl, hB, hx, h => by simp at hl
  | i :: t, o :: l, listed, a, w, hl, hB, hx, h => fun hc => by
    simp only [List.map_cons, List.cons.injEq] at hl
    unfold seqX at hB
    rw [Bool.and_eq_true, decide_eq_true_eq] at hB
    rw [List.all_cons, Bool.and_eq_true] at hx
    refine ⟨fun h0 => (by rw [hB.1] at h0; cases h0), fun j hj => ?_⟩
    have hri : i ∈ Region.ready .any ops listed := by rw [hB.1]; simp
    rw [hB.1] at hj
    have hji : j = i := by simpa using hj
    subst hji
    have hw : wpOp P ops Q j (wpList P ops Q l) a w := by unfold wpOp; simp only [← hl.1]; exact h
    have hj2 : j ∈ ex := by simpa using hx.1
    exact wpOp_mono (fun a' w' h' => ⟨fun hn => absurd hj2 hn, wpX_rest hl.2 hB.2 hx.2 h' (hc.set hri)⟩) hw
/-- the beginning -/
theorem wpX_start (C : World → Prop) (ex : List Nat) {id : Nat} {a : Act} {w : World} (hm : P.follows .mixedOrders = true)
    (h : WX P ops Q C ex ops.size (Array.replicate ops.size false) a w.drew) : (Code.region id ops true).wp P Q a w :=
  wp_region_any hm (wpAny_of_X _ _ _ _ (h (ClosedX.first _)))
end
end Go.Proofs.Ytghdginjdolgpaa
namespace Go.Proofs.Ytghdginjdolgpaa
open Go.RowKit Go.Sort
def RowV := {v : Value // v.oneCell' = true}
def encM (x : Int × RowV) : List Value := [.int .i64 x.1, x.2.1]
theorem encM_one (x : Int × RowV) (u : Value) (h : u ∈ encM x) : u.oneCell' = true := by
  simp [encM] at h
  rcases h with rfl | rfl
  · rfl
  · exact x.2.2

def FM : Flat (Int × RowV) := ⟨41, 96, .agg #[.int .i64 0, .slice none 0 0], 2, 32, encM, Try.underlying41, by kernel_rfl, rfl, by decide, by decide, fun _ => rfl, encM_one⟩
def PairM (P : Value → List Int → Prop) (us : List (Int × RowV)) (ms : List (Int × List Int)) : Prop :=
  us.length = ms.length ∧ ∀ (i : Nat) (u : Int × RowV) (m : Int × List Int), us[i]? = some u → ms[i]? = some m → u.1 = m.1 ∧ P u.2.1 m.2
def SlM (w : World) (v : Value) (ms : List (Int × List Int)) : Prop := ∃ us, FM.Sl w v us ∧ PairM (SlI w) us ms
def OwnM (w : World) (base : Nat) (v : Value) (ms : List (Int × List Int)) : Prop := ∃ us, FM.Own w base v us ∧ PairM (OwnI w base) us ms
theorem PairM.imp {P Q : Value → List Int → Prop} {us : List (Int × RowV)} {ms : List (Int × List Int)} (h : PairM P us ms) (hpq : ∀ v xs, P v xs → Q v xs) : PairM Q us ms :=
  ⟨h.1, fun i u m hu hm => ⟨(h.2 i u m hu hm).1, hpq _ _ (h.2 i u m hu hm).2⟩⟩
theorem SlM.below {w w' : World} {v : Value} {ms : List (Int × List Int)} (h : SlM w v ms) (hb : Below w.heap.size w w') : SlM w' v ms := by
  obtain ⟨us, h1, h2⟩ := h
  exact ⟨us, h1.below hb, h2.imp (fun v xs h => h.below hb)⟩
theorem OwnM.below {w w' : World} {base : Nat} {v : Value} {ms : List (Int × List Int)} (h : OwnM w base v ms) (hb : Below w.heap.size w w') : OwnM w' base v ms := by
  obtain ⟨us, h1, h2⟩ := h
  exact ⟨us, h1.below hb, h2.imp (fun v xs h => h.below hb)⟩
theorem OwnM.lower {w : World} {base base' : Nat} {v : Value} {ms : List (Int × List Int)} (h : OwnM w base v ms) (hb : base' ≤ base) : OwnM w base' v ms := by
  obtain ⟨us, h1, h2⟩ := h
  exact ⟨us, h1.lower hb, h2.imp (fun v xs h => h.lower hb)⟩
theorem OwnM.sl {w : World} {base : Nat} {v : Value} {ms : List (Int × List Int)} (h : OwnM w base v ms) : SlM w v ms := by
  obtain ⟨us, h1, h2⟩ := h
  exact ⟨us, h1.sl, h2.imp (fun v xs h => h.sl)⟩
theorem OwnM.nil (w : World) (base : Nat) : OwnM w base (.slice none 0 0) [] := ⟨[], Flat.Own.nil _ _, rfl, by intro i u m h; simp at h⟩
theorem flat_fs {α : Type} {F : Flat α} {w w' : World} {base : Nat} {v : Value} {xs : List α} {S : Nat → Prop} (h : F.Own w base v xs) (hf : Fs S w w') (hS : ∀ k, S k → k < base) : F.Own w' base v xs := by
  refine ⟨h.1, ?_⟩
  rcases h.2 with h2 | ⟨g, c, cur, h1, h2, h3, h4⟩
  · exact .inl h2
  · refine .inr ⟨g, c, cur, h1, h2, ?_, h4⟩
    rw [hf.block g (Array.getElem?_eq_some_iff.1 h3).1 (fun hx => by have := hS g hx; omega)]; exact h3
theorem OwnM.fs {w w' : World} {base : Nat} {v : Value} {ms : List (Int × List Int)} {S : Nat → Prop} (h : OwnM w base v ms) (hf : Fs S w w') (hS : ∀ k, S k → k < base) : OwnM w' base v ms := by
  obtain ⟨us, h1, h2⟩ := h
  exact ⟨us, flat_fs h1 hf hS, h2.imp (fun v xs h => h.fs hf hS)⟩
theorem SlM.form {w : World} {v : Value} {ms : List (Int × List Int)} (h : SlM w v ms) : ∃ ad c, v = .slice ad ms.length c ∧ ms.length ≤ c ∧ c ≤ maxLen := by
  obtain ⟨us, ⟨ad, c, h1, h2, h3, _⟩, h4, _⟩ := h
  exact ⟨ad, c, by rw [← h4]; exact h1, by rw [← h4]; exact h2, h3⟩
theorem SlM.at_ {w : World} {ad : Option Addr} {n c : Nat} {ms : List (Int × List Int)} (h : SlM w (.slice ad n c) ms) {i : Nat} (hi : i < ms.length) :
    ∃ b off ra rc, ad = some ⟨b, off, none⟩ ∧ b < w.heap.size ∧ w.cell? ⟨b, off + i * 2, none⟩ = some (.int .i64 ms[i].1) ∧ w.cell? ⟨b, off + i * 2 + 1, none⟩ = some (.slice ra ms[i].2.length rc) ∧ SlI w (.slice ra ms[i].2.length rc) ms[i].2 := by
  obtain ⟨us, h1, h2, h3⟩ := h
  have hu : i < us.length := by omega
  obtain ⟨b, off, h4, h5, h6⟩ := h1.at_ hu
  obtain ⟨e1, e2⟩ := h3 i us[i] ms[i] (List.getElem?_eq_getElem hu) (List.getElem?_eq_getElem hi)
  obtain ⟨ra, rc, e3, e4, e5, e6⟩ := e2
  have k0 := h6 0 (.int .i64 us[i].1) rfl
  have k1 := h6 1 us[i].2.1 rfl
  rw [e1, show off + (i * FM.size + 0) = off + i * 2 from by show off + (i * 2 + 0) = _; omega] at k0
  rw [e3, show off + (i * FM.size + 1) = off + i * 2 + 1 from by show off + (i * 2 + 1) = _; omega] at k1
  exact ⟨b, off, ra, rc, h4, h5, k0, k1, ra, rc, rfl, e4, e5, e6⟩
/-- an int row's block is no block of maps -/
theorem OwnI.apartM {w : World} {base base' : Nat} {u v : Value} {xs : List Int} {us : List (Int × RowV)} (h : OwnI w base u xs) (h2 : FM.Own w base' v us) {g : Nat} (hu : u.ownBlock = some g) : v.ownBlock ≠ some g := by
  intro hv
  rcases h.2 with ⟨rfl, _⟩ | ⟨g1, c1, cur1, rfl, _, k1, _⟩
  · simp [Value.ownBlock] at hu
  · rcases h2.2 with ⟨rfl, _⟩ | ⟨g2, c2, cur2, rfl, _, k2, _⟩
    · simp [Value.ownBlock] at hv
    · simp [Value.ownBlock] at hu hv
      subst hu
      subst hv
      rw [k1] at k2
      simp [FM] at k2
/-- append(v, Map{y, u}) on owned maps -/
theorem append_map {ops : Array Oper} {rest : List Oper} {o : Oper} {a : Act} {Q : Exit → Act → World → Prop} (w : World) (s x : Operand) (hg : o.guard = none)
    (ho : o.op = .call { callee := .builtin .append, args := #[s, x], argTypes := #[41, 41] })
    {base : Nat} {v u : Value} {ms : List (Int × List Int)} {y : Int} {xs : List Int} (hs : a.eval s = v) (hown : OwnM w base v ms) (hu : OwnI w base u xs) {t g0 : Nat} (hg0 : w.heap.size = g0) (hx : a.eval x = .slice (some ⟨g0, 0, none⟩) 1 1)
    (hlen : ms.length < 16777216) (hbase : base ≤ w.heap.size)
    (h : ∀ v' w', OwnM w' base v' (ms ++ [(y, xs)]) → Below base (w.alloc (.cells #[.int .i64 y, u] t)) w' → w.heap.size < w'.heap.size → wpList Try.prog ops Q rest (a.put o.dst v') w') : wpList Try.prog ops Q (o :: rest) a (w.alloc (.cells #[.int .i64 y, u] t)) := by
  subst hg0
  obtain ⟨us, h1, h2⟩ := hown
  have hu1 : u.oneCell' = true := by
    rcases hu.2 with ⟨rfl, _⟩ | ⟨g, c, cur, rfl, _⟩ <;> rfl
  have bx : Below w.heap.size w (w.alloc (.cells #[.int .i64 y, u] t)) := (Below.refl _ _).alloc (Nat.le_refl _) _
  have h1' := h1.below bx
  have hu' := hu.below bx
  refine Flat.append FM _ s x hg ho (ys := [(y, ⟨u, hu1⟩)]) hs h1' hx (rd_new w #[.int .i64 y, u] t) (by rw [h2.1]; simp; omega) (by simp; omega) (fun v' w' k1 k2 k3 => ?_)
  have key : ∀ (v0 : Value) (zs : List Int), OwnI (w.alloc (.cells #[.int .i64 y, u] t)) base v0 zs → OwnI w' base v0 zs := fun v0 zs ho => ho.kept k2 (by
    cases hb : v0.ownBlock with
    | none => exact .inl rfl
    | some g => exact .inr (Ne.symm (ho.apartM h1' hb)))
  refine h v' w' ⟨_, k1, by simp [h2.1], fun i u0 m hi hm => ?_⟩ k3 (by have := k3.size; have := k2.size; simp at this; omega)
  have hul := h2.1
  by_cases hlt : i < us.length
  · rw [List.getElem?_append_left hlt] at hi
    rw [List.getElem?_append_left (by rw [← h2.1]; exact hlt)] at hm
    obtain ⟨e1, e2⟩ := h2.2 i u0 m hi hm
    exact ⟨e1, key _ _ (e2.below bx)⟩
  · rw [List.getElem?_append_right (by omega)] at hi hm
    have h0 : i - us.length = 0 := by
      rcases Nat.eq_zero_or_pos (i - us.length) with e | e
      · exact e
      · rw [List.getElem?_eq_none (by simp; omega)] at hi; simp at hi
    rw [h0] at hi
    rw [← h2.1, h0] at hm
    simp at hi hm
    subst hi hm
    exact ⟨rfl, key _ _ hu'⟩
/-- valid maps -/
def rowOkM (s : Int) (r : List Int) : Bool := decide ((r.length : Int) = s) && r.all (fun x => decide (0 ≤ x) && decide (x < s))
def mapsOk (s t : Int) (ms : List (Int × List Int)) : Prop :=
  (1 ≤ s ∧ s ≤ 6) ∧ (1 ≤ t ∧ t ≤ 60) ∧ (1 ≤ ms.length ∧ ms.length ≤ 60) ∧ (∀ m ∈ ms, 1 ≤ m.1 ∧ (m.2.length : Int) = s ∧ ∀ x ∈ m.2, 0 ≤ x ∧ x < s) ∧ (ms.map (·.1)).sum = t
/-- where a state goes by a map -/
def goM (ms : List (Int × List Int)) (p x : Int) : Int := ((ms.getD p.toNat (0, [])).2).getD x.toNat 0
def byM (ms : List (Int × List Int)) (st : List Int) (p : Int) : List Int := st.map (goM ms p)
def sumW (ms : List (Int × List Int)) (k : Nat) : Int := ((ms.take k).map (·.1)).sum
theorem sumW_succ {ms : List (Int × List Int)} {k : Nat} (h : k < ms.length) : sumW ms (k + 1) = sumW ms k + ms[k].1 := by
  unfold sumW
  rw [List.take_succ_eq_append_getElem h, List.map_append, List.sum_append]; simp
theorem sumW_all (ms : List (Int × List Int)) : sumW ms ms.length = (ms.map (·.1)).sum := by unfold sumW; rw [List.take_length]
theorem sum_le_of_nonneg : ∀ {l : List Int}, (∀ x ∈ l, 0 ≤ x) → 0 ≤ l.sum
  | [], _ => by simp
  | x :: l, h => by
    have h1 := h x (by simp)
    have h2 := sum_le_of_nonneg (l := l) (fun y hy => h y (by simp [hy]))
    simp; omega
theorem mapsOk.sums {s t : Int} {ms : List (Int × List Int)} (h : mapsOk s t ms) {k : Nat} (hk : k ≤ ms.length) : 0 ≤ sumW ms k ∧ sumW ms k ≤ t := by
  obtain ⟨_, _, _, h4, h5⟩ := h
  have e : (ms.map (·.1)).sum = sumW ms k + ((ms.drop k).map (·.1)).sum := by
    unfold sumW
    rw [← List.sum_append, ← List.map_append, List.take_append_drop]
  have n1 : 0 ≤ sumW ms k := sum_le_of_nonneg (fun x hx => by
    rw [List.mem_map] at hx
    obtain ⟨m, hm, rfl⟩ := hx
    have := h4 m (List.mem_of_mem_take hm); omega)
  have n2 : 0 ≤ ((ms.drop k).map (·.1)).sum := sum_le_of_nonneg (fun x hx => by
    rw [List.mem_map] at hx
    obtain ⟨m, hm, rfl⟩ := hx
    have := h4 m (List.mem_of_mem_drop hm); omega)
  omega
theorem mapsOk.wt {s t : Int} {ms : List (Int × List Int)} (h : mapsOk s t ms) {k : Nat} (hk : k < ms.length) : 1 ≤ ms[k].1 ∧ ms[k].1 ≤ t := by
  have h1 := (h.sums (k := k) (by omega)).1
  have h2 := (h.sums (k := k + 1) (by omega)).2
  rw [sumW_succ hk] at h2
  obtain ⟨_, _, _, h4, _⟩ := h
  exact ⟨(h4 _ (List.getElem_mem hk)).1, by omega⟩
theorem goM_at {ms : List (Int × List Int)} {p x : Nat} (hp : p < ms.length) (hx : x < ms[p].2.length) : goM ms p x = ms[p].2[x] := by
  unfold goM
  simp [List.getD, hp, hx]
theorem goM_in {s t : Int} {ms : List (Int × List Int)} (h : mapsOk s t ms) {p x : Int} (hp : 0 ≤ p ∧ p < ms.length) (hx : 0 ≤ x ∧ x < s) : 0 ≤ goM ms p x ∧ goM ms p x < s := by
  obtain ⟨p, rfl⟩ := Int.eq_ofNat_of_zero_le hp.1
  obtain ⟨x, rfl⟩ := Int.eq_ofNat_of_zero_le hx.1
  obtain ⟨_, _, _, h4, _⟩ := h
  have hpl : p < ms.length := by omega
  obtain ⟨_, h6, h7⟩ := h4 _ (List.getElem_mem hpl)
  have hxl : x < ms[p].2.length := by omega
  rw [goM_at hpl hxl]
  exact h7 _ (List.getElem_mem hxl)
end Go.Proofs.Ytghdginjdolgpaa
namespace Go.Proofs.Ytghdginjdolgpaa
open Go.RowKit Go.Sort
def mxTo (l : List Int) (j : Nat) : Int := (l.take j).foldl max (l.headD 0)
def mnTo (l : List Int) (j : Nat) : Int := (l.take j).foldl min (l.headD 0)
theorem mxTo_succ {l : List Int} {j : Nat} (hj : j < l.length) : mxTo l (j + 1) = max (mxTo l j) l[j] := by
  unfold mxTo; rw [List.take_succ_eq_append_getElem hj, List.foldl_append]; rfl
theorem mnTo_succ {l : List Int} {j : Nat} (hj : j < l.length) : mnTo l (j + 1) = min (mnTo l j) l[j] := by
  unfold mnTo; rw [List.take_succ_eq_append_getElem hj, List.foldl_append]; rfl
theorem foldl_max_ge : ∀ (l : List Int) (a : Int), a ≤ l.foldl max a ∧ ∀ x ∈ l, x ≤ l.foldl max a
  | [], a => ⟨Int.le_refl _, by simp⟩
  | y :: l, a => by
    obtain ⟨h1, h2⟩ := foldl_max_ge l (max a y)
    rw [List.foldl_cons]
    refine ⟨by omega, fun x hx => ?_⟩
    simp at hx
    rcases hx with rfl | hx
    · omega
    · exact h2 x hx
theorem foldl_min_le : ∀ (l : List Int) (a : Int), l.foldl min a ≤ a ∧ ∀ x ∈ l, l.foldl min a ≤ x
  | [], a => ⟨Int.le_refl _, by simp⟩
  | y :: l, a => by
    obtain ⟨h1, h2⟩ := foldl_min_le l (min a y)
    rw [List.foldl_cons]
    refine ⟨by omega, fun x hx => ?_⟩
    simp at hx
    rcases hx with rfl | hx
    · omega
    · exact h2 x hx
theorem foldl_same : ∀ (l : List Int) (a : Int), (∀ x ∈ l, x = a) → l.foldl max a = a ∧ l.foldl min a = a
  | [], _, _ => ⟨rfl, rfl⟩
  | y :: l, a, h => by
    have hy : y = a := h y (by simp)
    subst hy
    have := foldl_same l y (fun x hx => h x (by simp [hx]))
    simpa using this
theorem allAs_mm (l : List Int) : decide (mxTo l l.length = mnTo l l.length) = allAs l := by
  unfold mxTo mnTo
  rw [List.take_length]
  by_cases h : allAs l = true
  · rw [h]
    have h2 : ∀ x ∈ l, x = l.headD 0 := by
      intro x hx
      unfold allAs at h
      rw [List.all_eq_true] at h
      simpa using h x hx
    obtain ⟨h3, h4⟩ := foldl_same l _ h2
    rw [h3, h4]; simp
  · have h' : allAs l = false := by simpa using h
    rw [h']
    simp only [decide_eq_false_iff_not]
    intro e
    apply h
    unfold allAs
    rw [List.all_eq_true]
    intro x hx
    have h1 := (foldl_max_ge l (l.headD 0))
    have h2 := (foldl_min_le l (l.headD 0))
    have h3 := h1.2 x hx
    have h4 := h2.2 x hx
    exact decide_eq_true (by omega)
set_option maxHeartbeats 400000 in
theorem Max_any {v : Value} {l : List Int} (w : World) (ha : SlI w v l) (hne : 0 < l.length) :
    Calls Try.prog 79 #[v] w fun e w' => e = .returned (.int .i64 (mxTo l l.length)) ∧ w = w' := by
  obtain ⟨a, c, rfl, hc, hc', hrd⟩ := ha
  unfold maxLen at hc'
  have hm : l.length ≤ 9223372036854775807 := by omega
  have hm1 : ¬ ((l.length : Int) < 1) := by omega
  obtain ⟨b, off, rfl, g0⟩ := hrd.one (i64s_get hne)
  have hh := head_get hne
  rw [hh, Nat.add_zero] at g0
  have e1 : mxTo l 1 = l.headD 0 := by
    cases l with
    | nil => simp at hne
    | cons x l => simp [mxTo]
  obtain ⟨h, hq⟩ : ∃ h : Int, h = l.headD 0 := ⟨_, rfl⟩
  rw [← hq] at g0 e1
  have E1 := Lib.hid e1
  clear hh hc hc' hq e1
  go_enter Try.func79, Try.ntmps79
  go_wp2
  go_loopw [3, 4] (fun m i wr => ∃ j : Nat, 1 ≤ j ∧ j ≤ l.length ∧ i = .int .i64 j ∧ m = .int .i64 (mxTo l j) ∧ wr = w) (fun _ i _ => l.length - (intOf i).toNat)
  case atStart => exact ⟨1, by omega, by omega, rfl, vi E1.out.symm, rfl⟩
  case round =>
    obtain ⟨j, hj1, hj, rfl, rfl, rfl⟩ := hrel
    clear g0
    by_cases hjt : j < l.length
    · have hs := mxTo_succ hjt
      have HS := Lib.hid hs
      obtain ⟨b', off', he, gj⟩ := hrd.one (i64s_get hjt)
      simp at he
      obtain ⟨rfl, rfl⟩ := he
      clear hs
      go_wp2
      go_roundw
      case rel => exact ⟨j + 1, by omega, by omega, by go_num, vi (by rw [HS.out]; split <;> omega), trivial⟩
      case measure => simp [intOf]; omega
    · obtain rfl : j = l.length := by omega
      go_wp2
      go_ret
      exact ⟨rfl, rfl⟩
set_option maxHeartbeats 400000 in
theorem Min_any {v : Value} {l : List Int} (w : World) (ha : SlI w v l) (hne : 0 < l.length) :
    Calls Try.prog 80 #[v] w fun e w' => e = .returned (.int .i64 (mnTo l l.length)) ∧ w = w' := by
  obtain ⟨a, c, rfl, hc, hc', hrd⟩ := ha
  unfold maxLen at hc'
  have hm : l.length ≤ 9223372036854775807 := by omega
  have hm1 : ¬ ((l.length : Int) < 1) := by omega
  obtain ⟨b, off, rfl, g0⟩ := hrd.one (i64s_get hne)
  have hh := head_get hne
  rw [hh, Nat.add_zero] at g0
  have e1 : mnTo l 1 = l.headD 0 := by
    cases l with
    | nil => simp at hne
    | cons x l => simp [mnTo]
  obtain ⟨h, hq⟩ : ∃ h : Int, h = l.headD 0 := ⟨_, rfl⟩
  rw [← hq] at g0 e1
  have E1 := Lib.hid e1
  clear hh hc hc' hq e1
  go_enter Try.func80, Try.ntmps80
  go_wp2
  go_loopw [3, 4] (fun m i wr => ∃ j : Nat, 1 ≤ j ∧ j ≤ l.length ∧ i = .int .i64 j ∧ m = .int .i64 (mnTo l j) ∧ wr = w) (fun _ i _ => l.length - (intOf i).toNat)
  case atStart => exact ⟨1, by omega, by omega, rfl, vi E1.out.symm, rfl⟩
  case round =>
    obtain ⟨j, hj1, hj, rfl, rfl, rfl⟩ := hrel
    clear g0
    by_cases hjt : j < l.length
    · have hs := mnTo_succ hjt
      have HS := Lib.hid hs
      obtain ⟨b', off', he, gj⟩ := hrd.one (i64s_get hjt)
      simp at he
      obtain ⟨rfl, rfl⟩ := he
      clear hs
      go_wp2
      go_roundw
      case rel => exact ⟨j + 1, by omega, by omega, by go_num, vi (by rw [HS.out]; split <;> omega), trivial⟩
      case measure => simp [intOf]; omega
    · obtain rfl : j = l.length := by omega
      go_wp2
      go_ret
      exact ⟨rfl, rfl⟩

theorem allSame_any {v : Value} {l : List Int} (w : World) (ha : SlI w v l) (hne : 0 < l.length) :
    Calls Try.prog 53 #[v] w fun e w' => e = .returned (.bool (allAs l)) ∧ w = w' := by
  have K1 := Lib.hid (Max_any w ha hne)
  have K2 := Lib.hid (Min_any w ha hne)
  obtain ⟨a, c, rfl, _, _, _⟩ := ha
  have hm := allAs_mm l
  have HM := Lib.hid hm
  generalize mxTo l l.length = m1 at K1 HM
  generalize mnTo l l.length = m2 at K2 HM
  have ht : (m1 == m2) = decide (m1 = m2) := by by_cases h : m1 = m2 <;> simp [h]
  have HT := Lib.hid ht
  clear hm ht
  go_enter Try.func53, Try.ntmps53
  go_wp2_with fail
  refine (K1.out).mono ?_
  rintro e w' ⟨rfl, rfl⟩
  go_wp2_with fail
  refine (K2.out).mono ?_
  rintro e w' ⟨rfl, rfl⟩
  go_wp2
  go_ret
  exact ⟨rb (by rw [← HM.out]; exact HT.out), rfl⟩

set_option maxHeartbeats 2000000 in
theorem window_any {v dv : Value} {xss : List (List Int)} {draws : List Int} (s t : Int) (w : World) (ha : SlII w v xss) (hdr : SlI w dv draws) (hv : chainOk s t xss = true) (hdb : DrawsB t draws) :
    Calls Try.prog 43 #[.agg #[.int .i64 s, .int .i64 t, v], dv] w fun e w' => e = .returned (.tuple #[.bool (winMet (runAll xss draws xss.length)), .int .i64 (winState (runAll xss draws xss.length))]) ∧ Below w.heap.size w w' := by
  obtain ⟨⟨hs1, hs2⟩, ht, hls, _⟩ := chainOk_parts0 hv
  obtain ⟨da, dc, rfl, hdc, hdc', hdd⟩ := hdr
  unfold maxLen at hdc'
  have HA := Lib.hid ha
  have HD := Lib.hid hdb
  obtain ⟨a, ca, us, rfl, _, _, _, _, _⟩ := ha
  have bb := chBelow w s t (.slice a xss.length ca)
  have hcb := chBox w s t (.slice a xss.length ca)
  have HC := Lib.hid hcb
  have HBB := Lib.hid bb
  have hn6 : xss.length ≤ 6 := by omega
  have hn1 : 1 ≤ xss.length := by omega
  have hls' : ∃ n : Nat, s = (n : Int) := ⟨xss.length, hls.symm⟩
  have HL := Lib.hid hls
  obtain ⟨n, rfl⟩ : ∃ n : Nat, s = (n : Int) := hls'
  have hnn : n = xss.length := by omega
  have HN := Lib.hid hnn
  clear hls hs1 hs2 hdb hcb bb hnn
  go_enter Try.func43, Try.ntmps43
  go_wp2_with fail
  refine (everyState_any n _ (by have := HN.out; omega)).mono ?_
  rintro e w1 ⟨av, rfl, hown, hb1⟩
  rw [HN.out] at hown
  have hbx := hb1
  rcases hown.forms with ⟨_, h0⟩ | ⟨g, gc, rfl, hg, hg1, hgc, hgc2⟩
  · have := upTo_length xss.length; rw [h0] at this; simp at this; omega
  rw [upTo_length] at hown hgc ⊢
  unfold maxLen at hgc2
  have hg' : w.heap.size + 1 ≤ g := by simpa using hg
  clear hg1 hg hbx
  have hown2 : OwnI w1 (w.heap.size + 1) (.slice (some ⟨g, 0, none⟩) xss.length gc) (upTo xss.length) := hown.lower (by simp)
  have hb2 : Below (w.heap.size + 1) (w.alloc (chObj n t (.slice a xss.length ca))) w1 := hb1.mono (by simp)
  clear hown hb1
  go_wp2
  go_loopw [7] (fun i wr => ∃ k : Nat, k ≤ draws.length ∧ i = .int .i64 ((k : Int) - 1) ∧ OwnI wr (w.heap.size + 1) (.slice (some ⟨g, 0, none⟩) xss.length gc) (runAll xss (draws.drop k) xss.length) ∧ Below (w.heap.size + 1) (w.alloc (chObj n t (.slice a xss.length ca))) wr) (fun i _ => (intOf i + 1).toNat)
  case atStart => exact ⟨draws.length, Nat.le_refl _, by go_num, by simpa [runAll] using hown2, hb2⟩
  case round =>
    clear hown2 hb2
    obtain ⟨k, hk, rfl, hown, hbx⟩ := hrel
    have hbw := (HBB.out).trans (hbx.mono (by omega))
    have hsz1 : w.heap.size + 1 ≤ wr.heap.size := by have := hbx.size; simpa using this
    cases k with
    | zero =>
      rw [show ((0 : Nat) : Int) - 1 = -1 from rfl]
      rw [List.drop_zero] at hown
      have hll := runAll_length xss xss.length draws
      generalize hrun : runAll xss draws xss.length = l at hown hll
      have HRUN := Lib.hid hrun
      clear hrun
      obtain ⟨wo, rfl⟩ : ∃ wo : World, wo = wr := ⟨_, rfl⟩
      have HLL := Lib.hid hll
      have hl0 : 0 < l.length := by omega
      have K := Lib.hid (allSame_any _ hown.sl hl0)
      have g0 := hown.cell (i := 0) hl0
      rw [head_get hl0] at g0
      obtain ⟨h, hq⟩ : ∃ h : Int, h = l.headD 0 := ⟨_, rfl⟩
      rw [← hq] at g0
      have HQ := Lib.hid hq
      have k0 := fun d os => cell_regrown g0 d os
      have i2 : 0 < xss.length := by omega
      clear hown hll hq g0 hl0
      go_wp2_with fail
      refine (K.out).mono ?_
      rintro e w2 ⟨rfl, rfl⟩
      generalize hA : allAs l = A
      have HAA := Lib.hid hA
      clear hA
      cases A
      · clear k0
        go_wp2
        go_ret2
        exact ⟨by rw [HRUN.out]; exact ret_win HAA.out, hbw⟩
      · go_wp2_with fail
        refine wp_region_quiet_below (by kernel_rfl) (by kernel_rfl) ?_
        repeat (first | go_big_quiet_skip | quiet_step (fail))
        refine wpQuiet_nil ?_
        intro _ hw'
        obtain ⟨⟨dq, osq⟩, hw''⟩ := hw'
        subst hw''
        have bq := hbw.trans ((below_regrown wo dq osq).mono hbw.size)
        generalize grow (redrawn wo dq) osq = wq at bq ⊢
        clear k0
        go_wp2
        go_ret2
        rw [HQ.out]
        exact ⟨by rw [HRUN.out]; exact ret_win2 HAA.out, bq⟩
    | succ k =>
      have hkd : ((k + 1 : Nat) : Int) - 1 = (k : Int) := by omega
      rw [hkd]
      have hlk := runAll_length xss xss.length (draws.drop (k + 1))
      have hin := runAll_in hv (draws := draws.drop (k + 1)) (fun x hx => HD.out x (List.mem_of_mem_drop hx))
      have hstep := runAll_drop (xss := xss) (n := xss.length) (k := k) (draws := draws) (by omega)
      have hdk := HD.out draws[k] (List.getElem_mem (by omega))
      generalize runAll xss (draws.drop (k + 1)) xss.length = l at hown hlk hin hstep
      generalize hdd2 : draws[k] = d at hstep hdk
      have HDD := Lib.hid hdd2
      have HS := Lib.hid hstep
      have HLK := Lib.hid hlk
      clear hstep hdd2 hkd
      go_wp2
      go_loopw [22] (fun i wr => ∃ j : Nat, j ≤ xss.length ∧ i = .int .i64 j ∧ OwnI wr (w.heap.size + 1) (.slice (some ⟨g, 0, none⟩) xss.length gc) ((stepAll xss d l).take j ++ l.drop j) ∧ Below (w.heap.size + 1) (w.alloc (chObj n t (.slice a xss.length ca))) wr) (fun i _ => xss.length - (intOf i).toNat)
      case atStart => exact ⟨0, Nat.zero_le _, rfl, by simpa using hown, hbx⟩
      case round =>
        clear hown hbx hbw hsz1
        obtain ⟨j, hj, rfl, hown, hby⟩ := hrel
        have hbr := (HBB.out).trans (hby.mono (by omega))
        have hsz1 : w.heap.size + 1 ≤ wr.heap.size := by have := hby.size; simpa using this
        obtain ⟨_, c0, c1, c2⟩ := (HC.out).below (by simpa using hby)
        simp only [Nat.zero_add] at c0 c1 c2
        have kc0 := fun d os => cell_regrown c0 d os
        have kc1 := fun d os => cell_regrown c1 d os
        have kc2 := fun d os => cell_regrown c2 d os
        clear c0 c1 c2
        by_cases hjt : j < xss.length
        · have hjl : j < l.length := by rw [HLK.out]; exact hjt
          have gc0 := hown.cell (i := j) (by rw [mixLen (by omega)]; exact hjl)
          rw [mixGet hjl] at gc0
          have hx := hin l[j] (List.getElem_mem hjl)
          obtain ⟨y, hy⟩ := Int.eq_ofNat_of_zero_le hx.1
          rw [hy] at gc0 hx
          have HY := Lib.hid hy
          have HO := Lib.hid hown
          have hyl : y < xss.length := by omega
          obtain ⟨db, doff, rfl, gd⟩ := (hdd.below hbr).one (i64s_get (show k < draws.length by omega))
          rw [HDD.out] at gd
          have k1 := fun d os => cell_regrown gc0 d os
          have k2 := fun d os => cell_regrown gd d os
          have i0 : (0 : Int) ≤ (j : Int) := by omega
          have i1 : (j : Int) < (xss.length : Int) := by omega
          have i2 : (0 : Int) ≤ (k : Int) := by omega
          have i3 : (k : Int) < (draws.length : Int) := by omega
          clear hy hown gd
          go_wp2_with fail
          refine wp_region_below_tail 10 (by kernel_rfl) (by kernel_rfl) ?_
          simp only [List.take_succ_cons, List.take_zero, List.drop_succ_cons, List.drop_zero]
          repeat (first | go_big_quiet_skip | quiet_step (exact Calls.regrown_of (stepByDraw_b n t d y _ (((HA.out).below hbr).below (below_regrown _ _ _)) hv hdk hyl)))
          refine wpQuiet_nil ?_
          intro _ hw'
          obtain ⟨⟨dq, osq⟩, hw''⟩ := hw'
          subst hw''
          have bq0 := below_regrown wr dq osq
          have bq := hby.trans (bq0.mono hsz1)
          have howq := (HO.out).below bq0
          clear k1 k2 kc0 kc1 kc2
          generalize grow (redrawn wr dq) osq = wq at bq0 bq howq ⊢
          have gc1 := howq.cell (i := j) (by rw [mixLen (by omega)]; exact hjl)
          have gf := howq.free j
          have own' := howq.set j (nxt xss d l[j])
          rw [mixStep hjl, HY.out] at own'
          have HOwn := Lib.hid own'
          clear own' howq gc0
          go_wp2
          go_roundw
          case rel => exact ⟨j + 1, by omega, by go_num, HOwn.out, bq.setCell hg' _⟩
          case measure => simp [intOf]; omega
        · obtain rfl : j = xss.length := by omega
          have hT : (stepAll xss d l).take xss.length ++ l.drop xss.length = runAll xss (draws.drop k) xss.length := by
            rw [HS.out, List.take_of_length_le (by simp [stepAll]; rw [HLK.out]; exact Nat.le_refl _), List.drop_eq_nil_of_le (by rw [HLK.out]; exact Nat.le_refl _), List.append_nil]
          rw [hT] at hown
          clear hT kc0 kc1 kc2
          go_wp2
          go_roundw
          case rel => exact ⟨k, by omega, by go_num, hown, hby⟩
          case measure => simp [intOf]
end Go.Proofs.Ytghdginjdolgpaa
namespace Go.Proofs.Ytghdginjdolgpaa
open Go.RowKit

def nextSeed (x : Int) : Int := (1103515245 * x + 12345) % 2147483648
def seedAt (x : Int) : Nat → Int
  | 0 => x
  | n + 1 => nextSeed (seedAt x n)
def drawsL (x total : Int) (n : Nat) : List Int := (List.range n).map fun (i : Nat) => seedAt x (i + 1) / 65536 % total
theorem drawsL_succ (x total : Int) (n : Nat) : drawsL x total (n + 1) = drawsL x total n ++ [seedAt x (n + 1) / 65536 % total] := by
  simp [drawsL, List.range_succ]
theorem drawsL_length (x total : Int) (n : Nat) : (drawsL x total n).length = n := by simp [drawsL]
theorem nextSeed_bd {x : Int} : 0 ≤ nextSeed x ∧ nextSeed x < 2147483648 := by unfold nextSeed; omega
theorem seedAt_bd {x : Int} (h0 : 0 ≤ x) (h1 : x < 2147483648) (n : Nat) : 0 ≤ seedAt x n ∧ seedAt x n < 2147483648 := by
  cases n with
  | zero => exact ⟨h0, h1⟩
  | succ n => exact nextSeed_bd

set_option maxHeartbeats 400000 in
theorem drawsOf_any (seed total : Int) (n : Nat) (w : World) (h0 : 0 ≤ seed) (h1 : seed < 2147483648) (ht0 : 1 ≤ total) (ht1 : total ≤ 1000000) (hn : n ≤ 1000000) :
    Calls Try.prog 49 #[.int .i64 seed, .int .i64 total, .int .i64 n] w fun e w' => ∃ v, e = .returned v ∧ OwnI w' w.heap.size v (drawsL seed total n) ∧ Below w.heap.size w w' := by
  go_enter Try.func49, Try.ntmps49
  go_wp2
  go_loopw [0, 7, 10] (fun s v i wr => ∃ k : Nat, k ≤ n ∧ i = .int .i64 k ∧ s = .int .i64 (seedAt seed k) ∧ OwnI wr w.heap.size v (drawsL seed total k) ∧ Below w.heap.size w wr) (fun _ _ i _ => n - (intOf i).toNat)
  case atStart => exact ⟨0, Nat.zero_le _, rfl, rfl, OwnI.empty _ (Nat.le_refl _), (Below.refl _ _).alloc (Nat.le_refl _) _⟩
  case round =>
    obtain ⟨k, hk, rfl, rfl, hown, hbw⟩ := hrel
    have hsb := seedAt_bd h0 h1 k
    by_cases hlt : k < n
    · have hy : (1103515245 * seedAt seed k + 12345) % 2147483648 = seedAt seed (k + 1) := rfl
      have HY := Lib.hid hy
      clear hy
      have hsz := hbw.size
      have hl := drawsL_length seed total k
      go_wp2_with (at_builtin; refine append_i64 _ _ _ _ rfl rfl rfl hown rfl (by omega) (by omega) ?_)
      intro v' w1 hown1 hb1 hsz1
      rw [HY.out, ← drawsL_succ] at hown1
      have hb2 := (hbw.alloc hsz _).trans hb1
      clear hown hb1
      go_wp2
      go_roundw
      case rel => exact ⟨k + 1, by omega, by go_num, vi HY.out, hown1, hb2⟩
      case measure => simp [intOf]; omega
    · obtain rfl : k = n := by omega
      go_wp2
      go_ret
      exact ⟨_, rfl, hown, hbw⟩
def drawsOfB (s t c : Int) : Bool := inR s 0 1000000000 && (inR t 1 60 && inR c 0 64)
def drawsOfR (s t c : Int) : List Int × Int := if drawsOfB s t c = true then (drawsL s t c.toNat, 0) else ([], 2)

set_option maxHeartbeats 400000 in
theorem ImplDrawsOf_any (s t c : Int) (w : World) :
    Calls Try.prog 14 #[.int .i64 s, .int .i64 t, .int .i64 c] w fun e w' => ∃ v, e = .returned (.tuple #[v, .int .i64 (drawsOfR s t c).2]) ∧ OwnI w' w.heap.size v (drawsOfR s t c).1 ∧ Below w.heap.size w w' := by
  by_cases hv : drawsOfB s t c = true
  · have hr : drawsOfR s t c = (drawsL s t c.toNat, 0) := by simp [drawsOfR, hv]
    rw [hr]
    simp only [drawsOfB, Bool.and_eq_true] at hv
    obtain ⟨h1, h2, h3⟩ := hv
    have b1 := inR_iff.1 h1
    have b2 := inR_iff.1 h2
    have b3 := inR_iff.1 h3
    obtain ⟨n, rfl⟩ := Int.eq_ofNat_of_zero_le b3.1
    clear hr
    go_enter Try.func14, Try.ntmps14
    go_wp2_with (first
      | (go_at_call 47; refine (inRange_any _ _ _ _).mono ?_; rintro e w' ⟨rfl, rfl⟩)
      | (go_at_call 49; refine (drawsOf_any s t n _ (by omega) (by omega) (by omega) (by omega) (by omega)).mono ?_; rintro e w' ⟨v, rfl, hown, hb⟩))
    go_ret2
    exact ⟨_, rfl, by simpa using hown, hb⟩
  · have hr : drawsOfR s t c = ([], 2) := by simp [drawsOfR, hv]
    rw [hr]
    have hv' : drawsOfB s t c = false := by simpa using hv
    clear hv hr
    by_cases h1 : inR s 0 1000000000 = true
    · by_cases h2 : inR t 1 60 = true
      · have h3 : inR c 0 64 = false := by simpa [drawsOfB, h1, h2] using hv'
        clear hv'
        go_enter Try.func14, Try.ntmps14
        go_wp2_with (go_at_call 47; refine (inRange_any _ _ _ _).mono ?_; rintro e w' ⟨rfl, rfl⟩)
        go_ret2
        exact ⟨_, rfl, OwnI.nil _ _, Below.refl _ _⟩
      · have h2' : inR t 1 60 = false := by simpa using h2
        clear h2 hv'
        go_enter Try.func14, Try.ntmps14
        go_wp2_with (go_at_call 47; refine (inRange_any _ _ _ _).mono ?_; rintro e w' ⟨rfl, rfl⟩)
        go_ret2
        exact ⟨_, rfl, OwnI.nil _ _, Below.refl _ _⟩
    · have h1' : inR s 0 1000000000 = false := by simpa using h1
      clear h1 hv'
      go_enter Try.func14, Try.ntmps14
      go_wp2_with (go_at_call 47; refine (inRange_any _ _ _ _).mono ?_; rintro e w' ⟨rfl, rfl⟩)
      go_ret2
      exact ⟨_, rfl, OwnI.nil _ _, Below.refl _ _⟩

end Go.Proofs.Ytghdginjdolgpaa
