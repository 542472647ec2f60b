/-
  The text of a graph, both sides.
-/
import Derived.Test.YtbokklbbnaibdaaColour
import Derived.Test.YtbokklbbnaibdaaJoinD
namespace Go.Proofs.Ytbokklbbnaibdaa
open Go.RowKit Go.Sort
def edgeLn (e : List Int) : ByteArray := ⟨#[101, 100, 103, 101, 32]⟩ ++ (decB (e.getD 0 0).toNat ++ ⟨#[32]⟩ ++ decB (e.getD 1 0).toNat) ++ ⟨#[10]⟩
def linesG : ByteArray → List (List Int) → ByteArray
  | acc, [] => acc
  | acc, e :: r => linesG (acc ++ edgeLn e) r
def headG (m : Nat) : ByteArray := ⟨#[103, 114, 97, 112, 104, 32]⟩ ++ decB m ++ ⟨#[10]⟩
def graphTx (m : Nat) (es : List (List Int)) : ByteArray := linesG (headG m) es
def gTextR (n : Int) (es : List (List Int)) : ByteArray := if graphOk n es = true then graphTx n.toNat es else ⟨#[]⟩
theorem linesG_step {acc : ByteArray} {es : List (List Int)} {k : Nat} (h : k < es.length) : linesG acc (es.drop k) = linesG (acc ++ edgeLn es[k]) (es.drop (k + 1)) := by
  rw [List.drop_eq_getElem_cons h]; rfl
theorem edgeLn_two (p q : Nat) : edgeLn [(p : Int), (q : Int)] = ⟨#[101, 100, 103, 101, 32]⟩ ++ (decB p ++ ⟨#[32]⟩ ++ decB q) ++ ⟨#[10]⟩ := by simp [edgeLn]
theorem decimal_nat (m : Nat) (w : World) (h : m < 1000000000000) : Calls Try.prog 107 #[.int .i64 m] w fun e w' => e = .returned (.string (decB m)) ∧ Below w.heap.size w w' :=
  (decimal_any (m : Int) w (by omega) (by omega)).mono fun e w' ⟨h, hb⟩ => ⟨by rw [h, decIB_nat], hb⟩
set_option maxRecDepth 100000 in
set_option maxHeartbeats 2000000 in
theorem l08Text_any {v : Value} {es : List (List Int)} (b o m : Nat) (w : World) (hc : GraphAt w b o m v) (ha : SlII w v es) (hE : EdgesB m es) (hm : m ≤ 5) (hl : es.length ≤ 100) :
    Calls Try.prog 69 #[.pointer (some ⟨b, o, none⟩)] w fun e w' => e = .returned (.string (graphTx m es)) ∧ Below w.heap.size w w' := by
  obtain ⟨a, ca, us, rfl, hca, hca', hul, hrd, hrow⟩ := ha
  have HG := Lib.hid (fun W (h : Below w.heap.size w W) => And.intro (hrd.below h) (fun i hi u hu => (hrow i hi u hu).below h))
  have HC := Lib.hid (fun W (h : Below w.heap.size w W) => hc.below h)
  have HU := Lib.hid hul
  have HE := Lib.hid hE
  obtain ⟨_, c0, c1⟩ := hc
  unfold maxLen at hca'
  have h1 := decB_size_le (k := 0) (n := m) (by omega)
  have D1 := Lib.hid (fun u => Decimal_any 0 m u (by omega) (by omega))
  generalize hds : decB m = ds at h1 D1
  have hT : graphTx m es = linesG (⟨#[103, 114, 97, 112, 104, 32]⟩ ++ ds ++ ⟨#[10]⟩) es := by unfold graphTx headG; rw [hds]
  have HT := Lib.hid hT
  have z1 : ¬ 9223372036854775807 < 6 + ds.size := by omega
  have z2 : ¬ 9223372036854775807 < 6 + ds.size + 1 := by omega
  clear hul hrd hrow hE hds hT
  go_enter Try.func69, Try.ntmps69
  go_wp2_with fail
  refine (D1.out _).mono ?_
  rintro e w1 ⟨rfl, b1⟩
  clear c0 c1
  go_wp2
  go_loopw [3, 4] (fun t i wr => ∃ (k : Nat) (acc : ByteArray), k ≤ es.length ∧ i = .int .i64 k ∧ t = .string acc ∧ acc.size ≤ 8 + 10 * k ∧ Hid (linesG (⟨#[103, 114, 97, 112, 104, 32]⟩ ++ ds ++ ⟨#[10]⟩) es = linesG acc (es.drop k)) ∧ Below w.heap.size w wr) (fun _ i _ => es.length - (intOf i).toNat)
  case atStart => exact ⟨0, _, Nat.zero_le _, rfl, rfl, by rw [ByteArray.size_append, ByteArray.size_append]; show 6 + _ + 1 ≤ _; omega, rfl, b1⟩
  case round =>
    clear b1 z1 z2
    obtain ⟨k, acc, hk, rfl, rfl, hsz, hln, hbr⟩ := hrel
    obtain ⟨_, c0, c1⟩ := HC.out _ hbr
    by_cases hlt : k < es.length
    · obtain ⟨x, bb, off, rfl, gc, sx⟩ := SlII.row HU.out (HG.out _ hbr).1 (HG.out _ hbr).2 hlt
      have i1 : (k : Int) < (es.length : Int) := by omega
      have i0 : (0 : Int) ≤ (k : Int) := by omega
      obtain ⟨p, q, he, hpq, hqm⟩ := HE.out _ (List.getElem_mem hlt)
      have hst := linesG_step (acc := acc) hlt
      rw [he, edgeLn_two] at hst
      rw [he] at sx
      obtain ⟨ua, uc, rfl, _, _, ur⟩ := sx
      obtain ⟨eb, eo, rfl, g0⟩ := ur.one (i64s_get (j := 0) (by simp))
      obtain ⟨eb', eo', he', g1⟩ := ur.one (i64s_get (j := 1) (by simp))
      simp only [Option.some.injEq, Addr.mk.injEq] at he'
      obtain ⟨rfl, rfl, _⟩ := he'
      simp only [Nat.add_zero, List.getElem_cons_zero, List.getElem_cons_succ] at g0 g1
      have s1 := decB_size_le (k := 0) (n := p) (by omega)
      have s2 := decB_size_le (k := 0) (n := q) (by omega)
      have E1 := Lib.hid (fun u => Decimal_any 0 p u (by omega) (by omega))
      have E2 := Lib.hid (fun u => Decimal_any 0 q u (by omega) (by omega))
      generalize decB p = da at s1 E1 hst
      generalize decB q = db at s2 E2 hst
      have HST := Lib.hid hst
      have kc1 := fun d os => cell_regrown c1 d os
      have kgc := fun d os => cell_regrown gc d os
      have kg0 := fun d os => cell_regrown g0 d os
      have kg1 := fun d os => cell_regrown g1 d os
      have j3 : (0 : Int) < (([(p : Int), (q : Int)].length : Nat) : Int) := by simp
      have j4 : (1 : Int) < (([(p : Int), (q : Int)].length : Nat) : Int) := by simp
      have z1 : ¬ 9223372036854775807 < 5 + da.size := by omega
      have z2 : ¬ 9223372036854775807 < 5 + da.size + 1 := by omega
      have z3 : ¬ 9223372036854775807 < 5 + da.size + 1 + db.size := by omega
      have z4 : ¬ 9223372036854775807 < 5 + da.size + 1 + db.size + 1 := by omega
      have z5 : ¬ 9223372036854775807 < acc.size + (5 + da.size + 1 + db.size + 1) := by omega
      clear he hpq hqm hst
      go_wp2_with fail
      refine wp_region_quiet_below (by kernel_rfl) (by kernel_rfl) ?_
      repeat (first | go_big_quiet_skip | quiet_step (first | (with_reducible exact Calls.regrown_of (E1.out _)) | (with_reducible exact Calls.regrown_of (E2.out _))))
      refine wpQuiet_nil ?_
      intro _ hw'
      obtain ⟨⟨dq, osq⟩, hw''⟩ := hw'
      subst hw''
      have bq0 := below_regrown wr dq osq
      generalize grow (redrawn wr dq) osq = wq at bq0 ⊢
      have hb2 := hbr.trans (bq0.mono hbr.size)
      clear kc1 kgc kg0 kg1
      go_wp2
      go_roundw
      case rel => exact ⟨k + 1, _, by omega, by go_num, rfl, by simp only [ByteArray.size_append]; show acc.size + (5 + _ + 1 + _ + 1) ≤ _; omega, by unfold Hid at *; rw [hln, HST]; simp only [app_assoc], hb2⟩
      case measure => simp [intOf]; omega
    · obtain rfl : k = es.length := by omega
      go_wp2
      go_ret
      exact ⟨rs (by rw [HT.out, hln.out]; simp [linesG]), hbr⟩
set_option maxHeartbeats 2000000 in
theorem graphText_any {v : Value} {es : List (List Int)} (m : Nat) (w : World) (ha : SlII w v es) (hE : EdgesB m es) (hm : m ≤ 5) (hl : es.length ≤ 100) :
    Calls Try.prog 70 #[.agg #[.int .i64 m, v]] w fun e w' => e = .returned (.string (graphTx m es)) ∧ Below w.heap.size w w' := by
  obtain ⟨a, ca, us, rfl, hca, hca', hul, hrd, hrow⟩ := ha
  have bx : Below w.heap.size w (w.alloc (.cells #[.int .i64 m, .slice a es.length ca] 37)) := (Below.refl _ _).alloc (Nat.le_refl _) _
  have X := Lib.hid (CellsAt.new w [.int .i64 m, .slice a es.length ca] 37)
  have HG := Lib.hid (fun W (h : Below w.heap.size w W) => And.intro (hrd.below h) (fun i hi u hu => (hrow i hi u hu).below h))
  have HU := Lib.hid hul
  have HE := Lib.hid hE
  unfold maxLen at hca'
  have h1 := decB_size_le (k := 0) (n := m) (by omega)
  have D1 := Lib.hid (fun u => decimal_nat m u (by omega))
  generalize hds : decB m = ds at h1 D1
  have hT : graphTx m es = linesG (⟨#[103, 114, 97, 112, 104, 32]⟩ ++ ds ++ ⟨#[10]⟩) es := by unfold graphTx headG; rw [hds]
  have HT := Lib.hid hT
  have z1 : ¬ 9223372036854775807 < 6 + ds.size := by omega
  have z2 : ¬ 9223372036854775807 < 6 + ds.size + 1 := by omega
  clear hul hrd hrow hE hds hT
  go_enter Try.func70, Try.ntmps70
  go_wp2_with fail
  refine (D1.out _).mono ?_
  rintro e w1 ⟨rfl, b1⟩
  have c1 := (X.out.below b1).get 1 _ rfl
  have hb1 := bx.trans (b1.mono bx.size)
  clear b1
  go_wp2
  go_loopw [3, 5, 14] (fun t _ i wr => ∃ (k : Nat) (acc : ByteArray), k ≤ es.length ∧ i = .int .i64 k ∧ t = .string acc ∧ acc.size ≤ 8 + 10 * k ∧ Hid (linesG (⟨#[103, 114, 97, 112, 104, 32]⟩ ++ ds ++ ⟨#[10]⟩) es = linesG acc (es.drop k)) ∧ Below w.heap.size w wr) (fun _ _ i _ => es.length - (intOf i).toNat)
  case atStart => exact ⟨0, _, Nat.zero_le _, rfl, rfl, by rw [ByteArray.size_append, ByteArray.size_append]; show 6 + _ + 1 ≤ _; omega, rfl, hb1⟩
  case round =>
    clear hb1 c1 z1 z2
    obtain ⟨k, acc, hk, rfl, rfl, hsz, hln, hbr⟩ := hrel
    by_cases hlt : k < es.length
    · obtain ⟨x, bb, off, rfl, gc, sx⟩ := SlII.row HU.out (HG.out _ hbr).1 (HG.out _ hbr).2 hlt
      have i1 : (k : Int) < (es.length : Int) := by omega
      obtain ⟨p, q, he, hpq, hqm⟩ := HE.out _ (List.getElem_mem hlt)
      have hst := linesG_step (acc := acc) hlt
      rw [he, edgeLn_two] at hst
      rw [he] at sx
      have SX := Lib.hid sx
      obtain ⟨ua, uc, rfl, _⟩ := sx
      have s1 := decB_size_le (k := 0) (n := p) (by omega)
      have s2 := decB_size_le (k := 0) (n := q) (by omega)
      have hd := decsB_two p q ⟨#[32]⟩
      have hin : In64 [(p : Int), (q : Int)] := by
        intro y hy
        simp at hy
        omega
      have HIN := Lib.hid hin
      have hsz2 : (decB p ++ ⟨#[32]⟩ ++ decB q).size ≤ 3 := by
        rw [ByteArray.size_append, ByteArray.size_append]; show _ + 1 + _ ≤ 3; omega
      generalize hdd : decB p ++ ⟨#[32]⟩ ++ decB q = dd at hsz2 hst hd
      have HD := Lib.hid hd
      have HST := Lib.hid hst
      have z1 : ¬ 9223372036854775807 < 5 + dd.size := by omega
      have z2 : ¬ 9223372036854775807 < 5 + dd.size + 1 := by omega
      have z3 : ¬ 9223372036854775807 < acc.size + (5 + dd.size + 1) := by omega
      clear he hpq hqm hst hd hin hdd s1 s2
      go_wp2_with fail
      refine (decimals_any ⟨#[32]⟩ _ SX.out (by simp) HIN.out (by decide)).mono ?_
      rintro e w2 ⟨rfl, b2⟩
      rw [HD.out]
      have hb2 := hbr.trans (b2.mono hbr.size)
      clear b2
      go_wp2
      go_roundw
      case rel => exact ⟨k + 1, _, by omega, by go_num, rfl, by simp only [ByteArray.size_append]; show acc.size + (5 + _ + 1) ≤ _; omega, by unfold Hid at *; rw [hln, HST], hb2⟩
      case measure => simp [intOf]; omega
    · obtain rfl : k = es.length := by omega
      go_wp2
      go_ret
      exact ⟨rs (by rw [HT.out, hln.out]; simp [linesG]), hbr⟩
set_option maxHeartbeats 1000000 in
theorem SpecGraphText_any {v : Value} {es : List (List Int)} (n : Int) (w : World) (ha : SlII w v es) :
    Calls Try.prog 30 #[.agg #[.int .i64 n, v]] w fun e w' => e = .returned (.string (gTextR n es)) ∧ Below w.heap.size w w' := by
  have HA := Lib.hid (fun W (h : Below w.heap.size w W) => ha.below h)
  obtain ⟨a, ca, us, rfl, _⟩ := ha
  have b1 : Below w.heap.size w (w.alloc (.cells #[.int .i64 n, .slice a es.length ca] 37)) := (Below.refl _ _).alloc (Nat.le_refl _) _
  have X := Lib.hid (graphAt_new w n (.slice a es.length ca))
  generalize hg : graphOk n es = g
  have HG := Lib.hid hg
  have hR : gTextR n es = if g = true then graphTx n.toNat es else ⟨#[]⟩ := by unfold gTextR; rw [hg]
  have HR := Lib.hid hR
  clear hR
  cases g
  · clear hg
    go_enter Try.func30, Try.ntmps30
    go_wp2_with (go_at_call 60; refine (l08Ok_any w.heap.size 0 n _ X.out (HA.out _ b1)).mono ?_; rintro e w2 ⟨rfl, b2⟩; rw [HG.out])
    go_ret
    exact ⟨rs (by rw [HR.out]; rfl), b1.trans (b2.mono b1.size)⟩
  · obtain ⟨m, rfl, hm1, hm5, hE, hlen⟩ := graphOk_all hg
    have HE := Lib.hid hE
    clear hg hE
    go_enter Try.func30, Try.ntmps30
    go_wp2_with fail
    refine (l08Ok_any w.heap.size 0 m _ X.out (HA.out _ b1)).mono ?_
    rintro e w2 ⟨rfl, b2⟩
    rw [HG.out]
    have hb2 := b1.trans (b2.mono b1.size)
    have X2 := Lib.hid (X.out.below b2)
    clear b2
    go_wp2_with fail
    refine (l08Text_any w.heap.size 0 m _ X2.out (HA.out _ hb2) HE.out hm5 (by omega)).mono ?_
    rintro e w3 ⟨rfl, b3⟩
    go_wp2
    go_ret
    exact ⟨rs (by rw [HR.out]; rfl), hb2.trans (b3.mono hb2.size)⟩
set_option maxHeartbeats 1000000 in
theorem ImplGraphText_any {v : Value} {es : List (List Int)} (n : Int) (w : World) (ha : SlII w v es) :
    Calls Try.prog 31 #[.agg #[.int .i64 n, v]] w fun e w' => e = .returned (.string (gTextR n es)) ∧ Below w.heap.size w w' := by
  have HA := Lib.hid (fun W (h : Below w.heap.size w W) => ha.below h)
  obtain ⟨a, ca, us, rfl, _⟩ := ha
  have b1 : Below w.heap.size w (w.alloc (.cells #[.int .i64 n, .slice a es.length ca] 37)) := (Below.refl _ _).alloc (Nat.le_refl _) _
  have X := Lib.hid (graphAt_new w n (.slice a es.length ca))
  generalize hg : graphOk n es = g
  have HG := Lib.hid hg
  have hR : gTextR n es = if g = true then graphTx n.toNat es else ⟨#[]⟩ := by unfold gTextR; rw [hg]
  have HR := Lib.hid hR
  clear hR
  cases g
  · clear hg
    go_enter Try.func31, Try.ntmps31
    go_wp2_with (go_at_call 26; refine (ImplValidGraph_any n _ (HA.out _ b1)).mono ?_; rintro e w2 ⟨rfl, b2⟩; rw [HG.out])
    go_ret
    exact ⟨rs (by rw [HR.out]; rfl), b1.trans (b2.mono b1.size)⟩
  · obtain ⟨m, rfl, hm1, hm5, hE, hlen⟩ := graphOk_all hg
    have HE := Lib.hid hE
    clear hg hE
    go_enter Try.func31, Try.ntmps31
    go_wp2_with fail
    refine (ImplValidGraph_any m _ (HA.out _ b1)).mono ?_
    rintro e w2 ⟨rfl, b2⟩
    rw [HG.out]
    have hb2 := b1.trans (b2.mono b1.size)
    obtain ⟨_, c0, c1⟩ := X.out.below b2
    simp only [Nat.zero_add] at c0 c1
    clear b2
    go_wp2_with fail
    refine (graphText_any m _ (HA.out _ hb2) HE.out hm5 (by omega)).mono ?_
    rintro e w3 ⟨rfl, b3⟩
    go_wp2
    go_ret
    exact ⟨rs (by rw [HR.out]; rfl), hb2.trans (b3.mono hb2.size)⟩
end Go.Proofs.Ytbokklbbnaibdaa
