/-
  The text of a journal, both sides.
-/
import Derived.Test.YthbbnjpadmcbmaaJoin
import Derived.Deep.DeepCutAuto
namespace Go.Proofs.Ythbbnjpadmcbmaa
open Go.RowKit Go.Sort
def ixR (p : Int × Int × Int → Bool) : List (Int × Int × Int) → Nat → Int
  | [], _ => -1
  | x :: r, k => if p x = true then (k : Int) else ixR p r (k + 1)
theorem ixR_any (p : Int × Int × Int → Bool) : ∀ (l : List (Int × Int × Int)) (k : Nat), decide (0 ≤ ixR p l k) = l.any p
  | [], k => by simp [ixR]
  | x :: r, k => by
    unfold ixR
    by_cases h : p x = true
    · rw [if_pos h]; simp [h]
    · rw [if_neg h, ixR_any p r (k + 1)]; simp [h]
theorem ixR_step {p : Int × Int × Int → Bool} {l : List (Int × Int × Int)} {k : Nat} (h : k < l.length) : ixR p (l.drop k) k = if p l[k] = true then (k : Int) else ixR p (l.drop (k + 1)) (k + 1) := by
  rw [List.drop_eq_getElem_cons h]; rfl
theorem ixR_bd (p : Int × Int × Int → Bool) : ∀ (l : List (Int × Int × Int)) (k : Nat), -1 ≤ ixR p l k ∧ ixR p l k < k + l.length
  | [], k => by simp [ixR]; omega
  | x :: r, k => by
    unfold ixR
    have := ixR_bd p r (k + 1)
    split
    · simp; omega
    · simp at this ⊢; omega
set_option maxHeartbeats 1000000 in
theorem IndexFuncR_any {u : Value} {xs : List (Int × Int × Int)} (cap : Value) (p : Int × Int × Int → Bool) (w : World) (ha : FRecord.Sl w u xs)
    (hf : ∀ W (x : Int × Int × Int), Below w.heap.size w W → x ∈ xs → Calls Try.prog 132 #[.agg #[.int .i64 x.1, .int .i64 x.2.1, .int .i64 x.2.2], cap] W fun e w' => e = .returned (.bool (p x)) ∧ Below W.heap.size W w') :
    Calls Try.prog 170 #[u, .func (.func 132) #[] #[cap]] w fun e w' => e = .returned (.int .i64 (ixR p xs 0)) ∧ Below w.heap.size w w' := by
  have HA := Lib.hid (fun W (h : Below w.heap.size w W) => ha.below h)
  obtain ⟨a, ca, rfl, hca, hca', _⟩ := ha
  unfold maxLen at hca'
  have HF := Lib.hid hf
  clear hf
  go_enter Try.func170, Try.ntmps170
  go_wp2
  go_loopw [5, 8] (fun _ i wr => ∃ k : Nat, k ≤ xs.length ∧ i = .int .i64 k ∧ Hid (ixR p xs 0 = ixR p (xs.drop k) k) ∧ Below w.heap.size w wr) (fun _ i _ => xs.length - (intOf i).toNat)
  case atStart => exact ⟨0, Nat.zero_le _, rfl, rfl, Below.refl _ _⟩
  case round =>
    obtain ⟨k, hk, rfl, hno, hbw⟩ := hrel
    by_cases hlt : k < xs.length
    · obtain ⟨b, off, rfl, _, c0, c1, c2⟩ := FRecord_at (HA.out _ hbw) hlt
      have i1 : (k : Int) < (xs.length : Int) := by omega
      have hst := ixR_step (p := p) hlt
      have HS := Lib.hid hst
      clear hst
      generalize hp : p xs[k] = P
      have HP := Lib.hid hp
      clear hp
      cases P
      · go_wp2_with fail
        refine (HF.out _ xs[k] hbw (List.getElem_mem hlt)).mono ?_
        rintro e w2 ⟨rfl, b2⟩
        rw [HP.out]
        have bq := hbw.trans (b2.mono hbw.size)
        go_wp2
        go_roundw
        case rel => exact ⟨k + 1, by omega, by go_num, by unfold Hid at *; rw [hno, HS, HP]; rfl, bq⟩
        case measure => simp [intOf]; omega
      · go_wp2_with fail
        refine (HF.out _ xs[k] hbw (List.getElem_mem hlt)).mono ?_
        rintro e w2 ⟨rfl, b2⟩
        rw [HP.out]
        have bq := hbw.trans (b2.mono hbw.size)
        go_wp2
        go_ret
        exact ⟨ri (by rw [hno.out, HS.out, HP.out]; rfl), bq⟩
    · obtain rfl : k = xs.length := by omega
      go_wp2
      go_ret
      exact ⟨ri (by rw [hno.out]; simp [ixR]), hbw⟩
set_option maxHeartbeats 400000 in
theorem ContainsFuncR_any {u : Value} {xs : List (Int × Int × Int)} (cap : Value) (p : Int × Int × Int → Bool) (w : World) (ha : FRecord.Sl w u xs)
    (hf : ∀ W (x : Int × Int × Int), Below w.heap.size w W → x ∈ xs → Calls Try.prog 132 #[.agg #[.int .i64 x.1, .int .i64 x.2.1, .int .i64 x.2.2], cap] W fun e w' => e = .returned (.bool (p x)) ∧ Below W.heap.size W w') :
    Calls Try.prog 131 #[u, .func (.func 132) #[] #[cap]] w fun e w' => e = .returned (.bool (xs.any p)) ∧ Below w.heap.size w w' := by
  have hx := ixR_any p xs 0
  obtain ⟨hb0, hb1⟩ := ixR_bd p xs 0
  obtain ⟨a, ca, rfl, hca, hca', _⟩ := id ha
  unfold maxLen at hca'
  have HF := Lib.hid hf
  have HX := Lib.hid hx
  clear hf hx
  go_enter Try.func131, Try.ntmps131
  go_wp2_with fail
  refine (IndexFuncR_any cap p _ ha HF.out).mono ?_
  rintro e w2 ⟨rfl, b2⟩
  go_wp2
  go_ret
  exact ⟨rb HX.out, b2⟩

set_option maxHeartbeats 1000000 in
theorem recClosure_any {v : Value} {xss : List (List Int)} (b : Nat) (s t bs sm wk : Int) (x : Int × Int × Int) (w : World) (hc : ServAt w b 0 s t v bs sm wk) (ha : SlII w v xss) (h1 : 1 ≤ sm) (h2 : sm ≤ 8) (h3 : 1 ≤ s) (h4 : s ≤ 6) :
    Calls Try.prog 132 #[.agg #[.int .i64 x.1, .int .i64 x.2.1, .int .i64 x.2.2], .pointer (some ⟨b, 0, none⟩)] w fun e w' => e = .returned (.bool (!recOk s sm x.1 x.2.1 x.2.2)) ∧ Below w.heap.size w w' := by
  obtain ⟨a, ca, us, rfl, _⟩ := id ha
  have bx : Below w.heap.size w (w.alloc (.cells #[.int .i64 x.1, .int .i64 x.2.1, .int .i64 x.2.2] 56)) := (Below.refl _ _).alloc (Nat.le_refl _) _
  obtain ⟨⟨_, c0, c1, c2⟩, c3, c4, c5⟩ := hc.below bx
  simp only [Nat.zero_add] at c0 c1 c2 c3 c4 c5
  clear ha hc
  go_enter Try.func132, Try.ntmps132
  go_wp2_with fail
  refine (validRecord_any s t bs sm wk x.1 x.2.1 x.2.2 _ h1 h2 h3 h4).mono ?_
  rintro e w2 ⟨rfl, b2⟩
  go_wp2
  go_ret
  exact ⟨rfl, bx.trans (b2.mono bx.size)⟩

def recsOk (s sm : Int) (xs : List (Int × Int × Int)) : Bool := !(xs.any fun x => !recOk s sm x.1 x.2.1 x.2.2)
def validRecsB (s t : Int) (xss : List (List Int)) (bs sm wk : Int) (xs : List (Int × Int × Int)) : Bool := serviceOk s t xss bs sm wk && recsOk s sm xs
theorem service_bds {s t : Int} {xss : List (List Int)} {bs sm wk : Int} (h : serviceOk s t xss bs sm wk = true) : 1 ≤ s ∧ s ≤ 6 ∧ 1 ≤ sm ∧ sm ≤ 8 ∧ 1 ≤ wk ∧ wk ≤ 4 ∧ 0 ≤ bs ∧ bs ≤ 999999992 := by
  unfold serviceOk at h
  rw [Bool.and_eq_true, Bool.and_eq_true, Bool.and_eq_true] at h
  have h1 := (chainOk_parts h.1).1
  have h2 := inR_iff.1 h.2.1
  have h3 := inR_iff.1 h.2.2.1
  have h4 := inR_iff.1 h.2.2.2
  omega
set_option maxHeartbeats 2000000 in
theorem validRecords_any {v rv : Value} {xss : List (List Int)} {xs : List (Int × Int × Int)} (s t bs sm wk : Int) (w : World) (ha : SlII w v xss) (hr : FRecord.Sl w rv xs) :
    Calls Try.prog 71 #[.agg #[.int .i64 s, .int .i64 t, v, .int .i64 bs, .int .i64 sm, .int .i64 wk], rv] w fun e w' => e = .returned (.bool (validRecsB s t xss bs sm wk xs)) ∧ Below w.heap.size w w' := by
  have hmf : ∀ (fn : Fn) (first cap : Array Value) (w : World), (Instr.makeFunc fn first cap).run Try.prog w = .ok (.func fn first cap) w := fun _ _ _ _ => rfl
  have HA := Lib.hid (fun W (h : Below w.heap.size w W) => ha.below h)
  have HR := Lib.hid (fun W (h : Below w.heap.size w W) => hr.below h)
  obtain ⟨a, ca, us, rfl, _, _, _, _, _⟩ := ha
  obtain ⟨ra, rc, rfl, _⟩ := hr
  have bx : Below w.heap.size w (w.alloc (svObj s t (.slice a xss.length ca) bs sm wk)) := (Below.refl _ _).alloc (Nat.le_refl _) _
  have X := Lib.hid (svBox w s t (.slice a xss.length ca) bs sm wk)
  generalize hv : serviceOk s t xss bs sm wk = V
  have HV := Lib.hid hv
  cases V
  · clear hv
    go_enter Try.func71, Try.ntmps71
    go_wp2_with fail
    refine (ImplValidService_any s t bs sm wk _ (HA.out _ bx)).mono ?_
    rintro e w1 ⟨rfl, b1⟩
    rw [HV.out]
    go_wp2
    go_ret
    exact ⟨rb (by unfold validRecsB; rw [HV.out]; rfl), bx.trans (b1.mono bx.size)⟩
  · obtain ⟨h1, h2, h3, h4, _⟩ := service_bds hv
    clear hv
    go_enter Try.func71, Try.ntmps71
    go_wp2_with fail
    refine (ImplValidService_any s t bs sm wk _ (HA.out _ bx)).mono ?_
    rintro e w1 ⟨rfl, b1⟩
    rw [HV.out]
    have hb1 := bx.trans (b1.mono bx.size)
    have X1 := Lib.hid (X.out.below b1)
    clear b1
    go_wp2_with fail
    refine (ContainsFuncR_any _ (fun x => !recOk s sm x.1 x.2.1 x.2.2) _ (HR.out _ hb1) (fun W x hW _ => recClosure_any w.heap.size s t bs sm wk x W (X1.out.below hW) (HA.out _ (hb1.trans (hW.mono hb1.size))) h3 h4 h1 h2)).mono ?_
    rintro e w2 ⟨rfl, b2⟩
    go_wp2
    go_ret
    exact ⟨rb (by unfold validRecsB recsOk; rw [HV.out]; rfl), hb1.trans (b2.mono hb1.size)⟩

/-- a right record is one of three kinds, with small numbers -/
theorem recOk_nat {s sm k x v : Int} (h : recOk s sm k x v = true) (h2 : sm ≤ 8) (h4 : s ≤ 6) : (k = 1 ∨ k = 2 ∨ k = 3) ∧ ∃ a b : Nat, x = (a : Int) ∧ v = (b : Int) ∧ a < 1000 ∧ b < 1000 := by
  unfold recOk at h
  rw [Bool.and_eq_true] at h
  obtain ⟨ha, hb⟩ := h
  have hx := inR_iff.1 ha
  obtain ⟨a, rfl⟩ := Int.eq_ofNat_of_zero_le hx.1
  have hv : (k = 1 ∨ k = 2 ∨ k = 3) ∧ 0 ≤ v ∧ v ≤ 7 := by
    split at hb
    · rename_i hk; have := inR_iff.1 hb; omega
    · split at hb
      · rename_i hk; have := inR_iff.1 hb; omega
      · split at hb
        · rename_i hk; have := of_decide_eq_true hb; omega
        · simp at hb
  obtain ⟨b, rfl⟩ := Int.eq_ofNat_of_zero_le hv.2.1
  exact ⟨hv.1, a, b, rfl, rfl, by omega, by omega⟩
/-- lines behind a text -/
def linesR (acc : ByteArray) : List (Int × Int × Int) → ByteArray
  | [] => acc
  | x :: r => linesR (acc ++ (recB x.1 x.2.1.toNat x.2.2.toNat ++ ⟨#[10]⟩)) r
theorem linesR_step {acc : ByteArray} {l : List (Int × Int × Int)} {k : Nat} (h : k < l.length) : linesR acc (l.drop k) = linesR (acc ++ (recB l[k].1 l[k].2.1.toNat l[k].2.2.toNat ++ ⟨#[10]⟩)) (l.drop (k + 1)) := by
  rw [List.drop_eq_getElem_cons h]; rfl
def jTextB (s t : Int) (xss : List (List Int)) (bs sm wk : Int) (xs : List (Int × Int × Int)) : ByteArray := if validRecsB s t xss bs sm wk xs = true then linesR ⟨#[]⟩ xs else ⟨#[]⟩
theorem recsOk_at {s sm : Int} {xs : List (Int × Int × Int)} (h : recsOk s sm xs = true) {k : Nat} (hk : k < xs.length) : recOk s sm xs[k].1 xs[k].2.1 xs[k].2.2 = true := by
  unfold recsOk at h
  simp at h
  exact h _ _ _ (List.getElem_mem hk)
set_option maxHeartbeats 2000000 in
theorem ImplJournalText_any {v rv : Value} {xss : List (List Int)} {xs : List (Int × Int × Int)} (s t bs sm wk : Int) (w : World) (ha : SlII w v xss) (hr : FRecord.Sl w rv xs) (hl : xs.length ≤ 1048576) :
    Calls Try.prog 29 #[.agg #[.int .i64 s, .int .i64 t, v, .int .i64 bs, .int .i64 sm, .int .i64 wk], rv] w fun e w' => e = .returned (.string (jTextB s t xss bs sm wk xs)) ∧ Below w.heap.size w w' := by
  have HA := Lib.hid (fun W (h : Below w.heap.size w W) => ha.below h)
  have HR := Lib.hid (fun W (h : Below w.heap.size w W) => hr.below h)
  obtain ⟨a, ca, us, rfl, _, _, _, _, _⟩ := ha
  obtain ⟨ra, rc, rfl, _⟩ := hr
  have bx : Below w.heap.size w (w.alloc (svObj s t (.slice a xss.length ca) bs sm wk)) := (Below.refl _ _).alloc (Nat.le_refl _) _
  generalize hv : validRecsB s t xss bs sm wk xs = V
  have HV := Lib.hid hv
  cases V
  · clear hv
    go_enter Try.func29, Try.ntmps29
    go_wp2_with fail
    refine (validRecords_any s t bs sm wk _ (HA.out _ bx) (HR.out _ bx)).mono ?_
    rintro e w1 ⟨rfl, b1⟩
    rw [HV.out]
    go_wp2
    go_ret
    exact ⟨rs (by unfold jTextB; rw [HV.out]; rfl), bx.trans (b1.mono bx.size)⟩
  · have hv2 := hv
    unfold validRecsB at hv2
    rw [Bool.and_eq_true] at hv2
    obtain ⟨h1, h2, h3, h4, _⟩ := service_bds hv2.1
    have HOK := Lib.hid hv2.2
    have hj : jTextB s t xss bs sm wk xs = linesR ⟨#[]⟩ xs := by unfold jTextB; rw [hv]; rfl
    have HJ := Lib.hid hj
    clear hv hv2 hj
    go_enter Try.func29, Try.ntmps29
    go_wp2_with fail
    refine (validRecords_any s t bs sm wk _ (HA.out _ bx) (HR.out _ bx)).mono ?_
    rintro e w1 ⟨rfl, b1⟩
    rw [HV.out]
    have hb1 := bx.trans (b1.mono bx.size)
    clear b1
    go_wp2
    go_loopw [5, 7, 14] (fun o _ i wr => ∃ (k : Nat) (acc : ByteArray), k ≤ xs.length ∧ i = .int .i64 k ∧ o = .string acc ∧ acc.size ≤ 32 * k ∧ Hid (linesR ⟨#[]⟩ xs = linesR acc (xs.drop k)) ∧ Below w.heap.size w wr) (fun _ _ i _ => xs.length - (intOf i).toNat)
    case atStart => exact ⟨0, ⟨#[]⟩, Nat.zero_le _, rfl, rfl, Nat.le_refl _, rfl, hb1⟩
    case round =>
      obtain ⟨k, acc, hk, rfl, rfl, hsz, hln, hbw⟩ := hrel
      by_cases hlt : k < xs.length
      · obtain ⟨b, off, rfl, _, c0, c1, c2⟩ := FRecord_at (HR.out _ hbw) hlt
        have i1 : (k : Int) < (xs.length : Int) := by omega
        obtain ⟨hkk, x, y, hx, hy, hx1, hy1⟩ := recOk_nat (recsOk_at HOK.out hlt) h4 h2
        have hst := linesR_step (acc := acc) hlt
        rw [hx, hy] at hst
        simp only [Int.toNat_natCast] at hst
        rw [hx] at c1
        rw [hy] at c2
        generalize xs[k].1 = kd at hst hkk c0
        have hrz := recB_size (k := kd) hx1 hy1
        have HST := Lib.hid hst
        have HKK := Lib.hid hkk
        have z1 : ¬ 9223372036854775807 < (recB kd x y).size + 1 := by omega
        have z2 : ¬ 9223372036854775807 < acc.size + ((recB kd x y).size + 1) := by omega
        have hbx : Below w.heap.size w (wr.alloc (.cells #[.int .i64 kd, .int .i64 x, .int .i64 y] 56)) := hbw.alloc hbw.size _
        clear hst hkk hx hy
        go_wp2_with (go_at_call 81; refine (recordText_any kd x y _ HKK.out hx1 hy1).mono ?_; rintro e w3 ⟨rfl, b3⟩)
        go_roundw
        case rel => exact ⟨k + 1, _, by omega, by go_num, rfl, by rw [ByteArray.size_append, ByteArray.size_append]; show _ + (_ + 1) ≤ _; omega, by unfold Hid at *; rw [hln, HST], hbx.trans (b3.mono hbx.size)⟩
        case measure => simp [intOf]; omega
      · obtain rfl : k = xs.length := by omega
        go_wp2
        go_ret
        exact ⟨rs (by rw [HJ.out, hln.out]; simp [linesR]), hbw⟩

set_option maxHeartbeats 2000000 in
theorem l09Line_any (k : Int) (s v : Nat) (w : World) (hk : k = 1 ∨ k = 2 ∨ k = 3) (hs : s < 1000) (hv : v < 1000) :
    Calls Try.prog 181 #[.agg #[.int .i64 k, .int .i64 s, .int .i64 v]] w fun e w' => e = .returned (.string (recB k s v ++ ⟨#[10]⟩)) ∧ Below w.heap.size w w' := by
  have h1 := decB_size_le (k := 2) (n := s) hs
  have h2 := decB_size_le (k := 2) (n := v) hv
  have D1 := Lib.hid (fun u => Decimal_any 2 s u hs (by omega))
  have D2 := Lib.hid (fun u => Decimal_any 2 v u hv (by omega))
  generalize hds : decB s = ds at h1 D1
  generalize hdv : decB v = dv at h2 D2
  have HDS := Lib.hid hds
  have HDV := Lib.hid hdv
  clear hds hdv hs hv
  have W : ∀ (kk : Nat) (word : ByteArray), (kk = 1 ∨ kk = 2 ∨ kk = 3) → word.size ≤ 4 → (#[(⟨#[]⟩ : ByteArray), ⟨#[117, 112, 32]⟩, ⟨#[103, 111, 116, 32]⟩, ⟨#[111, 117, 116, 32]⟩] : Array ByteArray)[kk]? = some word →
      (∀ t, recB (kk : Int) s v = t → t = if kk = 3 then word ++ ds else word ++ ds ++ (⟨#[32]⟩ ++ dv)) →
      Calls Try.prog 181 #[.agg #[.int .i64 kk, .int .i64 s, .int .i64 v]] w fun e w' => e = .returned (.string (recB kk s v ++ ⟨#[10]⟩)) ∧ Below w.heap.size w w' := by
    intro kk word hkk hw hword hrec
    have HREC := Lib.hid hrec
    have bx : Below w.heap.size w ((w.alloc (.cells #[.int .i64 kk, .int .i64 s, .int .i64 v] 56)).alloc (.cells #[.string ⟨#[]⟩, .string ⟨#[117, 112, 32]⟩, .string ⟨#[103, 111, 116, 32]⟩, .string ⟨#[111, 117, 116, 32]⟩] 9)) := ((Below.refl _ _).alloc (Nat.le_refl _) _).alloc (by simp) _
    have g0 : ((w.alloc (.cells #[.int .i64 kk, .int .i64 s, .int .i64 v] 56)).alloc (.cells #[.string ⟨#[]⟩, .string ⟨#[117, 112, 32]⟩, .string ⟨#[103, 111, 116, 32]⟩, .string ⟨#[111, 117, 116, 32]⟩] 9)).cell? ⟨w.heap.size, 0, none⟩ = some (.int .i64 kk) := by simp [go_sem]
    have g1 : ((w.alloc (.cells #[.int .i64 kk, .int .i64 s, .int .i64 v] 56)).alloc (.cells #[.string ⟨#[]⟩, .string ⟨#[117, 112, 32]⟩, .string ⟨#[103, 111, 116, 32]⟩, .string ⟨#[111, 117, 116, 32]⟩] 9)).cell? ⟨w.heap.size, 1, none⟩ = some (.int .i64 s) := by simp [go_sem]
    have g2 : ((w.alloc (.cells #[.int .i64 kk, .int .i64 s, .int .i64 v] 56)).alloc (.cells #[.string ⟨#[]⟩, .string ⟨#[117, 112, 32]⟩, .string ⟨#[103, 111, 116, 32]⟩, .string ⟨#[111, 117, 116, 32]⟩] 9)).cell? ⟨w.heap.size, 2, none⟩ = some (.int .i64 v) := by simp [go_sem]
    have gw : ((w.alloc (.cells #[.int .i64 kk, .int .i64 s, .int .i64 v] 56)).alloc (.cells #[.string ⟨#[]⟩, .string ⟨#[117, 112, 32]⟩, .string ⟨#[103, 111, 116, 32]⟩, .string ⟨#[111, 117, 116, 32]⟩] 9)).cell? ⟨w.heap.size + 1, kk, none⟩ = some (.string word) := by
      rcases hkk with rfl | rfl | rfl <;> (simp at hword; subst hword; simp [go_sem])
    have hk0 : (0 : Int) ≤ (kk : Int) := by omega
    have hk4 : (kk : Int) < 4 := by omega
    have z1 : ¬ 9223372036854775807 < word.size + ds.size := by omega
    have z2 : ¬ 9223372036854775807 < 1 + dv.size := by omega
    have z3 : ¬ 9223372036854775807 < word.size + ds.size + (1 + dv.size) := by omega
    have z4 : ¬ 9223372036854775807 < word.size + ds.size + (1 + dv.size) + 1 := by omega
    have z5 : ¬ 9223372036854775807 < word.size + ds.size + 1 := by omega
    have key : ((kk : Int) != 3) = !decide (kk = 3) := by rcases hkk with rfl | rfl | rfl <;> rfl
    clear hword hrec
    generalize hb3 : decide (kk = 3) = b3 at key
    have HB3 := Lib.hid hb3
    clear hb3 hkk
    cases b3
    · go_enter Try.func181, Try.ntmps181
      go_upto_region 2 with (fail)
      generalize hW : (w.alloc (.cells #[.int .i64 kk, .int .i64 s, .int .i64 v] 56)).alloc (.cells #[.string ⟨#[]⟩, .string ⟨#[117, 112, 32]⟩, .string ⟨#[103, 111, 116, 32]⟩, .string ⟨#[111, 117, 116, 32]⟩] 9) = W at *
      clear hW
      have k0 := fun d os => cell_regrown g0 d os
      have k1 := fun d os => cell_regrown g1 d os
      have kw := fun d os => cell_regrown gw d os
      refine wp_region_quiet_below (by kernel_rfl) (by kernel_rfl) ?_
      repeat (first | go_big_quiet_skip | quiet_step (exact Calls.regrown_of (D1.out _)))
      refine wpQuiet_nil ?_
      intro _ hw'
      obtain ⟨⟨dq, osq⟩, hw''⟩ := hw'
      subst hw''
      have bq := bx.trans ((below_regrown W dq osq).mono bx.size)
      have q0 := k0 dq osq
      have q2 := fun d os => k0 d os
      have r0 := cell_regrown g0 dq osq
      have r2 := cell_regrown g2 dq osq
      generalize grow (redrawn W dq) osq = wq at bq r0 r2 ⊢
      clear k0 k1 kw g0 g1 g2 gw q0 q2
      go_wp2_with (go_at_call 161; refine (D2.out _).mono ?_; rintro e w3 ⟨rfl, b3⟩)
      go_ret
      exact ⟨rs (by rw [HREC.out _ rfl, if_neg (of_decide_eq_false HB3.out)]), bq.trans (b3.mono bq.size)⟩
    · go_enter Try.func181, Try.ntmps181
      go_upto_region 2 with (fail)
      generalize hW : (w.alloc (.cells #[.int .i64 kk, .int .i64 s, .int .i64 v] 56)).alloc (.cells #[.string ⟨#[]⟩, .string ⟨#[117, 112, 32]⟩, .string ⟨#[103, 111, 116, 32]⟩, .string ⟨#[111, 117, 116, 32]⟩] 9) = W at *
      clear hW
      have k0 := fun d os => cell_regrown g0 d os
      have k1 := fun d os => cell_regrown g1 d os
      have kw := fun d os => cell_regrown gw d os
      refine wp_region_quiet_below (by kernel_rfl) (by kernel_rfl) ?_
      repeat (first | go_big_quiet_skip | quiet_step (exact Calls.regrown_of (D1.out _)))
      refine wpQuiet_nil ?_
      intro _ hw'
      obtain ⟨⟨dq, osq⟩, hw''⟩ := hw'
      subst hw''
      have bq := bx.trans ((below_regrown W dq osq).mono bx.size)
      have r0 := cell_regrown g0 dq osq
      generalize grow (redrawn W dq) osq = wq at bq r0 ⊢
      clear k0 k1 kw g0 g1 g2 gw
      go_wp2
      go_ret
      exact ⟨rs (by rw [HREC.out _ rfl, if_pos (of_decide_eq_true HB3.out)]), bq⟩
  rcases hk with rfl | rfl | rfl
  · exact W 1 ⟨#[117, 112, 32]⟩ (by simp) (by decide) rfl (fun t ht => by subst ht; rw [if_neg (by decide)]; unfold recB; rw [if_pos (by decide), HDS.out, HDV.out, app_assoc, app_assoc, app_assoc])
  · exact W 2 ⟨#[103, 111, 116, 32]⟩ (by simp) (by decide) rfl (fun t ht => by subst ht; rw [if_neg (by decide)]; unfold recB; rw [if_neg (by decide), if_pos (by decide), HDS.out, HDV.out, app_assoc, app_assoc, app_assoc])
  · exact W 3 ⟨#[111, 117, 116, 32]⟩ (by simp) (by decide) rfl (fun t ht => by subst ht; rw [if_pos rfl]; unfold recB; rw [if_neg (by decide), if_neg (by decide), HDS.out])

theorem any_atR {p : Int × Int × Int → Bool} {l : List (Int × Int × Int)} {k : Nat} (hk : k < l.length) (he : p l[k] = true) : l.any p = true := by
  rw [List.any_eq_true]; exact ⟨_, List.getElem_mem hk, he⟩
theorem any_takeR {p : Int × Int × Int → Bool} {l : List (Int × Int × Int)} {k : Nat} (h : (l.take k).any p = false) (hk : k < l.length) (he : p l[k] = false) : (l.take (k + 1)).any p = false := by
  rw [List.take_succ_eq_append_getElem hk, List.any_append, h]; simp [he]
set_option maxHeartbeats 2000000 in
theorem SpecJournalText_any {v rv : Value} {xss : List (List Int)} {xs : List (Int × Int × Int)} (s t bs sm wk : Int) (w : World) (ha : SlII w v xss) (hr : FRecord.Sl w rv xs) (hl : xs.length ≤ 1048576) :
    Calls Try.prog 182 #[.agg #[.int .i64 s, .int .i64 t, v, .int .i64 bs, .int .i64 sm, .int .i64 wk], rv] w fun e w' => e = .returned (.string (jTextB s t xss bs sm wk xs)) ∧ Below w.heap.size w w' := by
  have HA := Lib.hid (fun W (h : Below w.heap.size w W) => ha.below h)
  have HR := Lib.hid (fun W (h : Below w.heap.size w W) => hr.below h)
  obtain ⟨a, ca, us, rfl, _, _, _, _, _⟩ := ha
  obtain ⟨ra, rc, rfl, _⟩ := hr
  have bx : Below w.heap.size w (w.alloc (svObj s t (.slice a xss.length ca) bs sm wk)) := (Below.refl _ _).alloc (Nat.le_refl _) _
  have X := Lib.hid (svBox w s t (.slice a xss.length ca) bs sm wk)
  generalize hv : serviceOk s t xss bs sm wk = V
  have HV := Lib.hid hv
  cases V
  · clear hv
    go_enter Try.func182, Try.ntmps182
    go_wp2_with fail
    refine (l09Ok_any w.heap.size 0 s t bs sm wk _ X.out (HA.out _ bx)).mono ?_
    rintro e w1 ⟨rfl, b1⟩
    rw [HV.out]
    go_wp2
    go_ret
    exact ⟨rs (by unfold jTextB validRecsB; rw [HV.out]; rfl), bx.trans (b1.mono bx.size)⟩
  · obtain ⟨h1, h2, h3, h4, _⟩ := service_bds hv
    clear hv
    go_enter Try.func182, Try.ntmps182
    go_wp2_with fail
    refine (l09Ok_any w.heap.size 0 s t bs sm wk _ X.out (HA.out _ bx)).mono ?_
    rintro e w1 ⟨rfl, b1⟩
    rw [HV.out]
    have hb1 := bx.trans (b1.mono bx.size)
    have X1 := Lib.hid (X.out.below b1)
    clear b1
    go_wp2
    go_loopw [5, 6] (fun o i wr => ∃ (k : Nat) (acc : ByteArray), k ≤ xs.length ∧ i = .int .i64 k ∧ o = .string acc ∧ acc.size ≤ 32 * k ∧ Hid (linesR ⟨#[]⟩ xs = linesR acc (xs.drop k)) ∧ Hid ((xs.take k).any (fun x => !recOk s sm x.1 x.2.1 x.2.2) = false) ∧ Below w1.heap.size w1 wr) (fun _ i _ => xs.length - (intOf i).toNat)
    case atStart => exact ⟨0, ⟨#[]⟩, Nat.zero_le _, rfl, rfl, Nat.le_refl _, rfl, rfl, Below.refl _ _⟩
    case round =>
      obtain ⟨k, acc, hk, rfl, rfl, hsz, hln, hno, hbr⟩ := hrel
      have hbw := hb1.trans (hbr.mono hb1.size)
      by_cases hlt : k < xs.length
      · obtain ⟨b, off, rfl, hblk, c0, c1, c2⟩ := FRecord_at (HR.out _ hbw) hlt
        have i1 : (k : Int) < (xs.length : Int) := by omega
        generalize hp : recOk s sm xs[k].1 xs[k].2.1 xs[k].2.2 = P
        have HP := Lib.hid hp
        cases P
        · clear hp
          go_wp2_with fail
          refine (l09Record_any w.heap.size 0 s t bs sm wk xs[k].1 xs[k].2.1 xs[k].2.2 _ (X1.out.below hbr) h3 h4 h1 h2).mono ?_
          rintro e w3 ⟨rfl, b3⟩
          rw [HP.out]
          go_wp2
          go_ret
          exact ⟨rs (by
            unfold jTextB validRecsB recsOk
            rw [HV.out, any_atR (k := k) hlt (by rw [HP.out]; rfl)]; rfl), hbw.trans (b3.mono hbw.size)⟩
        · obtain ⟨hkk, x, y, hx, hy, hx1, hy1⟩ := recOk_nat hp h4 h2
          have hst := linesR_step (acc := acc) hlt
          have HNO := Lib.hid (any_takeR hno.out hlt (by rw [hp]; rfl))
          rw [hx, hy] at hst
          simp only [Int.toNat_natCast] at hst
          rw [hx] at c1
          rw [hy] at c2
          have hp2 := hp
          rw [hx, hy] at hp2
          generalize xs[k].1 = kd at hst hkk c0 hp2
          have hrz := recB_size (k := kd) hx1 hy1
          have HST := Lib.hid hst
          have HKK := Lib.hid hkk
          have HP2 := Lib.hid hp2
          have z2 : ¬ 9223372036854775807 < acc.size + ((recB kd x y).size + 1) := by omega
          clear hst hkk hx hy hp hp2
          go_wp2_with fail
          refine (l09Record_any w.heap.size 0 s t bs sm wk kd x y _ (X1.out.below hbr) h3 h4 h1 h2).mono ?_
          rintro e w3 ⟨rfl, b3⟩
          rw [HP2.out]
          have c0' := b3.cell (p := ⟨b, off + k * 3, none⟩) hblk
          have c1' := b3.cell (p := ⟨b, off + k * 3 + 1, none⟩) hblk
          have c2' := b3.cell (p := ⟨b, off + k * 3 + 2, none⟩) hblk
          rw [c0] at c0'
          rw [c1] at c1'
          rw [c2] at c2'
          have hb3 := hbr.trans (b3.mono hbr.size)
          clear c0 c1 c2 b3
          go_wp2_with (go_at_call 181; refine (l09Line_any kd x y _ HKK.out hx1 hy1).mono ?_; rintro e w4 ⟨rfl, b4⟩)
          go_roundw
          case rel => exact ⟨k + 1, _, by omega, by go_num, rfl, by rw [ByteArray.size_append, ByteArray.size_append]; show _ + (_ + 1) ≤ _; omega, by unfold Hid at *; rw [hln, HST], HNO.out, hb3.trans (b4.mono hb3.size)⟩
          case measure => simp [intOf]; omega
      · obtain rfl : k = xs.length := by omega
        go_wp2
        go_ret
        exact ⟨rs (by
          have h5 := hno.out
          rw [List.take_length] at h5
          unfold jTextB validRecsB recsOk
          rw [HV.out, h5, hln.out]; simp [linesR]), hbw⟩
end Go.Proofs.Ythbbnjpadmcbmaa
