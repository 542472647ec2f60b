/-
  CanRecolour: the program's side. With it: All colourings listed, with the place of each one: the program's.
-/
import Derived.Test.YtjbjkfahfjoigaaZRowCanRecolour20
import Derived.Test.YtjbjkfahfjoigaaZRowCanRecolour21
import Derived.Test.YtjbjkfahfjoigaaZRowCanRecolour18
import Derived.Test.YtjbjkfahfjoigaaZRowCanRecolour1
import Derived.Deep.DeepCutAuto
import Derived.Deep.RegionWith
import Derived.WalkArith
import Derived.Test.YtjbjkfahfjoigaaZRowCanRecolour11
set_option linter.unusedVariables false
set_option linter.unusedSimpArgs false
namespace Go.Proofs.Ytjbjkfahfjoigaa
open Go.RowKit Go.Sort Go.Maps
theorem joinFrom_size {b : ByteArray} (hb : b.size ≤ 16) : ∀ (l : List ByteArray) (acc : ByteArray) (f : Bool), (∀ x ∈ l, x.size ≤ 32) → (joinFrom b acc f l).size ≤ acc.size + 48 * l.length
  | [], acc, f, _ => by simp [joinFrom]
  | x :: r, acc, f, h => by
    unfold joinFrom
    have h1 := joinFrom_size hb r ((if f = true then acc else acc ++ b) ++ x) false (fun y hy => h y (by simp [hy]))
    have h2 := h x (by simp)
    rw [ByteArray.size_append] at h1
    have h3 : (if f = true then acc else acc ++ b).size ≤ acc.size + 16 := by
      split
      · omega
      · rw [ByteArray.size_append]; omega
    rw [List.length_cons]
    omega
theorem decsB_small {x : List Int} (hl : x.length ≤ 100) (hx : In64 x) : (decsB x ⟨#[44]⟩).size ≤ 5000 := by
  unfold decsB joinB
  have h1 := joinFrom_size (b := ⟨#[44]⟩) (by decide) (x.map decIB) ⟨#[]⟩ true (fun y hy => by
    rw [List.mem_map] at hy
    obtain ⟨z, hz, rfl⟩ := hy
    have := hx z hz
    have := decIB_size this.1 this.2
    omega)
  rw [List.length_map] at h1
  have : (⟨#[]⟩ : ByteArray).size = 0 := rfl
  omega

def ListedR (w : World) (D : List (List Int)) (e : Ending) (w' : World) : Prop :=
  (260 < D.length ∧ e = .returned (.tuple #[.slice none 0 0, .map none, .int .i64 3]) ∧ Below w.heap.size w w') ∨
  (¬ 260 < D.length ∧ ∃ r b, e = .returned (.tuple #[r, .map (some b), .int .i64 0]) ∧ OwnII w' w.heap.size r D ∧ w.heap.size ≤ b ∧ w'.ownsMap Try.prog 9 (plainElem Try.prog 3) b D.length (mapC D D.length) ∧ Below w.heap.size w w')
set_option maxRecDepth 100000 in
set_option maxHeartbeats 4000000 in
theorem listed_any {v : Value} {es : List (List Int)} (m q : Nat) (w : World) (ha : SlII w v es) (hE : EdgesB m es) (hm : m ≤ 5) (hq : q ≤ 4) :
    Calls Try.prog 33 #[.agg #[.int .i64 m, v], .int .i64 q] w (ListedR w (listC q m es)) := by
  have hmm := @run_makeMap Try.prog
  have HA := Lib.hid (fun W (h : Below w.heap.size w W) => ha.below h)
  have hlen := Nat.le_trans (colD_len q (List.replicate m (-1)) es m []) (pow_small hq hm)
  have HMEM := Lib.hid (fun x (h : x ∈ listC q m es) => (listC_mem.1 h).1)
  have HLC := Lib.hid (show listC q m es = colD q (List.replicate m (-1)) es m [] from rfl)
  rw [← show listC q m es = colD q (List.replicate m (-1)) es m [] from rfl] at hlen
  obtain ⟨a, ca, us, rfl, _⟩ := ha
  have HE := Lib.hid hE
  have b0 : Below w.heap.size w (w.alloc (.cells #[.int .i64 m, .slice a es.length ca] 35)) := (Below.refl _ _).alloc (Nat.le_refl _) _
  have X := Lib.hid (CellsAt.new w [.int .i64 m, .slice a es.length ca] 35)
  generalize hW : w.alloc (.cells #[.int .i64 m, .slice a es.length ca] 35) = W at b0 X
  have HW := Lib.hid hW
  have B0 := Lib.hid b0
  generalize listC q m es = D at hlen HMEM HLC ⊢
  have hz0 : w.heap.size < W.heap.size := X.out.1
  clear hE hW b0
  go_enter Try.func33, Try.ntmps33
  go_upto_region 1 with (fail)
  rw [HW.out]
  have HC2 : ∀ V, Below W.heap.size W V → V.cell? ⟨w.heap.size, 0, none⟩ = some (.int .i64 m) ∧ V.cell? ⟨w.heap.size, 1, none⟩ = some (.slice a es.length ca) := fun V h => ⟨(X.out.below h).get 0 _ rfl, (X.out.below h).get 1 _ rfl⟩
  have b1 : Below W.heap.size W W.drew := (Below.refl _ _).drew
  have hC := HC2 _ (b1)
  refine wpX_start (fun W' => W'.cell? ⟨w.heap.size, 0, none⟩ = some (.int .i64 m) ∧ W'.cell? ⟨w.heap.size, 1, none⟩ = some (.slice a es.length ca)) [5] (by kernel_rfl) ?_
  refine wpX_load (i := 0) (v := ?_) rfl (by kernel_rfl) (fun _ _ _ h => h) hC rfl (fun w' hw' => ?_) ?_
  rotate_left
  · obtain ⟨k1, k2⟩ := hw'; go_simp; try with_reducible rfl
  try simp only [Act.put, List.setIfInBounds_toArray, List.set_cons_zero, List.set_cons_succ]
  refine wpX_free (i := 1) (v := ?_) rfl (by kernel_rfl) (fun _ _ _ h => h) rfl (fun w' => ?_) ?_
  rotate_left
  · go_simp; try with_reducible rfl
  try simp only [Act.put, List.setIfInBounds_toArray, List.set_cons_zero, List.set_cons_succ]
  refine wpX_load (i := 2) (v := ?_) rfl (by kernel_rfl) (fun _ _ _ h => h) hC rfl (fun w' hw' => ?_) ?_
  rotate_left
  · obtain ⟨k1, k2⟩ := hw'; go_simp; try with_reducible rfl
  try simp only [Act.put, List.setIfInBounds_toArray, List.set_cons_zero, List.set_cons_succ]
  refine wpX_one (i := 3) rfl (by kernel_rfl) rfl ?_
  intro K hK
  go_simp
  go_at_call 65
  refine (freePart_any m _ ⟨_, _, _, rfl⟩ (by omega)).mono ?_
  rintro e w2 ⟨pv, rfl, op, b2⟩
  obtain ⟨pa, pn, pc, rfl, hpn⟩ := op.form
  have bu : Below W.heap.size W w2 := b1.trans b2
  have hC := HC2 _ (bu)
  refine hK _ _ hC ?_
  clear hK K
  try simp only [Act.put, List.setIfInBounds_toArray, List.set_cons_zero, List.set_cons_succ]
  refine wpX_one (i := 4) rfl (by kernel_rfl) rfl ?_
  intro K hK
  go_simp
  go_at_call 64
  refine (colourings_any m q _ (HA.out _ (B0.out.trans (bu.mono B0.out.size))) op.sl HE.out hm hq (by simp)).mono ?_
  rw [← HLC.out]
  rintro e w3 ⟨r, rfl, o2, b3⟩
  obtain ⟨ra, rn, rc, rfl, hrn⟩ := o2.form
  have hrn' := hrn.out
  subst hrn'
  have bx : Below W.heap.size W w3 := bu.trans (b3.mono bu.size)
  have o2 := o2.lower (base' := w.heap.size) (Nat.le_trans B0.out.size bu.size)
  have hC := HC2 _ (bx)
  refine hK _ _ hC ?_
  clear hK K hpn hrn op b2 b3 bu HC2
  try simp only [Act.put, List.setIfInBounds_toArray, List.set_cons_zero, List.set_cons_succ]
  refine wpX_rest (t := [5]) (l := [_]) rfl (by kernel_rfl) (by kernel_rfl) ?_
  simp only [List.getElem_toArray, List.getElem_cons_zero, List.getElem_cons_succ]
  have BX := Lib.hid (B0.out.trans (bx.mono B0.out.size))
  have O2 := Lib.hid o2
  have HD := Lib.hid (fun V (h : Below w3.heap.size w3 V) => o2.sl.below h)
  clear hC bx o2
  by_cases hbig : 260 < D.length
  · have t1 : (260 : Int) < (D.length : Int) := by omega
    go_wp2
    refine bodyPost_ret (v := .tuple #[.slice none 0 0, .map none, .int .i64 3]) (by simp [results, Try.results33, go_sem]) rfl ?_
    exact .inl ⟨hbig, rfl, BX.out⟩
  · have t1 : ¬ (260 : Int) < (D.length : Int) := by omega
    have OM := Lib.hid (World.ownsMap_made w3 Try.prog 9 (plainElem (H := Unit) Try.prog 3))
    have B3 := Lib.hid ((Below.refl w3.heap.size w3).alloc (Nat.le_refl _) (.map #[] 0))
    have hz3 := BX.out.size
    go_wp2
    go_loopw [22] (fun iv wr => ∃ j : Nat, j ≤ D.length ∧ iv = .int .i64 j ∧ wr.ownsMap Try.prog 9 (plainElem (H := Unit) Try.prog 3) w3.heap.size j (mapC D j) ∧ Below w3.heap.size w3 wr) (fun iv _ => D.length - (intOf iv).toNat)
    case atStart => exact ⟨0, Nat.zero_le _, rfl, OM.out, B3.out⟩
    case round =>
      clear OM B3
      obtain ⟨j, hj, rfl, hown, hbw⟩ := hrel
      by_cases hlt : j < D.length
      · have i1 : (j : Int) < (D.length : Int) := by omega
        have i0 : (0 : Int) ≤ (j : Int) := by omega
        obtain ⟨db, dof, xa, xc, hae, hdb, gd, sd⟩ := (HD.out wr hbw).nthJ hlt
        have hq : ra = some ⟨db, dof, none⟩ := hae
        subst hq
        obtain ⟨hxl, hxd⟩ := HMEM.out _ (List.getElem_mem hlt)
        have gD : D.getD j [] = D[j] := by rw [List.getD_eq_getElem?_getD, List.getElem?_eq_getElem hlt]; rfl
        have HMS := Lib.hid (mapC_succ D j)
        rw [gD] at HMS
        generalize D[j] = x at gd sd hxl hxd HMS
        have h64 : In64 x := fun c hc => by have := hxd c hc; omega
        have hsm := decsB_small (x := x) (by omega) h64
        have hkey : keyOf Try.prog 9 (.string (decsB x ⟨#[44]⟩)) = some (keyC x) := WideMaps.keyOf_string_mk Try.underlying9 (by unfold maxLen; omega)
        have HKEY := Lib.hid hkey
        have KD := Lib.hid (decimals_any ⟨#[44]⟩ wr sd (by omega) h64 (by decide))
        generalize x.length = xl at gd KD
        generalize decsB x ⟨#[44]⟩ = kb at HKEY KD
        have HO := Lib.hid hown
        have HB := Lib.hid hbw
        clear hkey hsm h64 hxd sd gD hae hown hbw
        go_wp2_with fail
        refine KD.out.mono ?_
        rintro e w5 ⟨rfl, b5⟩
        have B5 := Lib.hid (HB.out.trans (b5.mono HB.out.size))
        have ho := ownsMap_below HO.out b5 HO.out.lt
        clear b5
        go_wp2_with (at_mapUpdate; refine wpList_mapUpdate_own _ rfl _ _ _ 58 rfl 9 3 lawStr Try.underlying58 _ w3.heap.size j _ rfl ho (by unfold maxLen; omega) _ _ _ rfl rfl HKEY.out _ [] (plainElem_int Try.underlying3 (WalkArith.wf_i64 (by omega))) ?_)
        intro w6 o6 g6
        rw [← HMS.out] at o6
        have O6 := Lib.hid o6
        have B6 := Lib.hid (B5.out.grown g6 B5.out.size (fun k hk => by cases hk; exact Nat.le_refl _))
        clear o6 g6 ho
        go_wp2
        go_roundw
        case rel => exact ⟨j + 1, by omega, by go_num, O6.out, B6.out⟩
        case measure => simp [intOf]; omega
      · obtain rfl : j = D.length := by omega
        have HO := Lib.hid hown
        have HB := Lib.hid hbw
        clear hown hbw
        go_wp2
        refine bodyPost_ret (v := .tuple #[.slice ra D.length rc, .map (some w3.heap.size), .int .i64 0]) (by simp [results, Try.results33, go_sem]) rfl ?_
        exact .inr ⟨hbig, _, _, rfl, O2.out.below HB.out, hz3, HO.out, BX.out.trans (HB.out.mono hz3)⟩
end Go.Proofs.Ytjbjkfahfjoigaa
namespace Go.Proofs.Ytjbjkfahfjoigaa
open Go.RowKit Go.Sort Go.Maps
theorem tosC_at {D es : List (List Int)} {q m u : Nat} (h : u < D.length) : tosC D es q m u = (List.range m).flatMap (tgtC D es q D[u]) := by
  unfold tosC
  rw [List.getD_eq_getElem?_getD, List.getElem?_eq_getElem h]; rfl
theorem tgtC_take {D es : List (List Int)} {q node j : Nat} {x : List Int} (h : j < (freeL es x node q).length) : (tgtC D es q x node).take (j + 1) = (tgtC D es q x node).take j ++ [idxC D (x.set node (freeL es x node q)[j])] := by
  unfold tgtC
  rw [← List.map_take, ← List.map_take, List.take_succ_eq_append_getElem h, List.map_append]; rfl
theorem visAll_len (L : List Nat) : ∀ ts, L.length ≤ (visAll L ts).length := by
  intro ts
  induction ts generalizing L with
  | nil => exact Nat.le_refl _
  | cons k ts ih =>
    refine Nat.le_trans ?_ (ih (visit L k))
    unfold visit
    split
    · exact Nat.le_refl _
    · simp
theorem tgtC_all {D es : List (List Int)} {q node : Nat} {x : List Int} : (tgtC D es q x node).take (freeL es x node q).length = tgtC D es q x node := by
  rw [show (freeL es x node q).length = (tgtC D es q x node).length from by unfold tgtC; rw [List.length_map]]
  exact List.take_length

set_option maxRecDepth 100000 in
set_option maxHeartbeats 8000000 in
theorem ImplCanRecolour_any {v : Value} {es : List (List Int)} (n q : Int) (w : World) (ha : SlII w v es) :
    Calls Try.prog 13 #[.agg #[.int .i64 n, v], .int .i64 q] w fun e w' => e = .returned (tupBI (canR n es q)) ∧ Below w.heap.size w w' := by
  have HA := Lib.hid (fun W (h : Below w.heap.size w W) => ha.below h)
  obtain ⟨a, ca, us, rfl, _⟩ := ha
  have b1 : Below w.heap.size w (w.alloc (.cells #[.int .i64 n, .slice a es.length ca] 35)) := (Below.refl _ _).alloc (Nat.le_refl _) _
  have X := Lib.hid (graphAt_new w n (.slice a es.length ca))
  have hR : canR n es q = if codeC n es q [] = 0 then (if 260 < (listC q.toNat n.toNat es).length then (false, 3) else if (listC q.toNat n.toNat es).length = 0 then (true, 0) else (decide ((runL (tosC (listC q.toNat n.toNat es) es q.toNat n.toNat) (listC q.toNat n.toNat es).length 0 [0]).length = (listC q.toNat n.toNat es).length), 0)) else (false, codeC n es q []) := by rw [codeC_nil]; rfl
  have hok := fun h => askedC_ok (n := n) (q := q) (es := es) (r := true) h
  rw [← codeC_nil] at hok
  generalize hcd : codeC n es q [] = cd at hR hok
  have HCD := Lib.hid hcd
  have HRR := Lib.hid hR
  have HOK := Lib.hid hok
  clear hR hcd hok
  by_cases hz : cd = 0
  · obtain ⟨hg, hq1, hq4, _⟩ := HOK.out hz
    obtain ⟨m, rfl, hm1, hm5, hE, hes⟩ := graphOk_all hg
    obtain ⟨qn, rfl⟩ := Int.eq_ofNat_of_zero_le (show 0 ≤ q by omega)
    have HR3 := Lib.hid (show canR (m : Int) es (qn : Int) = if 260 < (listC qn m es).length then (false, 3) else if (listC qn m es).length = 0 then (true, 0) else (decide ((runL (tosC (listC qn m es) es qn m) (listC qn m es).length 0 [0]).length = (listC qn m es).length), 0) from by rw [HRR.out, if_pos hz, Int.toNat_natCast, Int.toNat_natCast])
    have HLI := Lib.hid (fun W (h : Below w.heap.size w W) => listed_any m qn W (HA.out W h) hE hm5 (by omega))
    have HND := Lib.hid (listC_nodup (q := qn) (m := m) (by omega) es)
    have HMEM := Lib.hid (fun x (h : x ∈ listC qn m es) => (listC_mem.1 h).1)
    have HSET := Lib.hid (fun x (h : x ∈ listC qn m es) node (hn : node < m) c (hc : c ∈ freeL es x node qn) => listC_set hE h hn hc)
    have HKI := Lib.hid (fun x (hx : x ∈ listC qn m es) y (hy : y ∈ listC qn m es) (h : keyC x = keyC y) => keyC_inj (by rw [(listC_mem.1 hx).1.1, (listC_mem.1 hy).1.1]) (fun c hc => by have := (listC_mem.1 hx).1.2 c hc; omega) (fun c hc => by have := (listC_mem.1 hy).1.2 c hc; omega) h)
    have HFR := Lib.hid (fun (u : Value) (x : List Int) node W (h : Below w.heap.size w W) (hu : SlI W u x) (hx : x.length = m) => free_any m (m : Int) node qn W (HA.out W h) hu hE hx (by omega) (by omega))
    generalize listC qn m es = D at HR3 HLI HND HMEM HSET HKI
    obtain ⟨TT, hTT⟩ : ∃ TT, TT = tosC D es qn m := ⟨_, rfl⟩
    rw [← hTT] at HR3
    have HTT := Lib.hid hTT
    have ht : (cd != 0) = false := by simp [hz]
    have HB1 := Lib.hid b1
    obtain ⟨W1, hW1⟩ : ∃ W1, W1 = w.alloc (.cells #[.int .i64 m, .slice a es.length ca] 35) := ⟨_, rfl⟩
    rw [← hW1] at X HB1
    have HW1 := Lib.hid hW1.symm
    have hz1 : w.heap.size < W1.heap.size := X.out.1
    clear hz hg hE HOK hTT b1 hW1
    go_enter Try.func13, Try.ntmps13
    go_upto_region 1 with (fail)
    rw [HW1.out]
    obtain ⟨_, c0, c1⟩ := X.out
    simp only [Nat.zero_add] at c0 c1
    go_wp2_with fail
    refine (colourCode_any m qn _ (HA.out _ HB1.out) (OwnII.nil _ 0).sl).mono ?_
    rintro e w2 ⟨rfl, b2⟩
    rw [HCD.out]
    have HB2 := Lib.hid (HB1.out.trans (b2.mono HB1.out.size))
    have X2 := Lib.hid (X.out.below b2)
    obtain ⟨_, c0, c1⟩ := X2.out
    simp only [Nat.zero_add] at c0 c1
    clear b2
    go_wp2_with fail
    refine (HLI.out w2 HB2.out).mono ?_
    rintro e w3 (⟨hbig, rfl, b3⟩ | ⟨hbig, lv, mb, rfl, ol, hmb, hom, b3⟩)
    · go_wp2
      go_ret2
      rw [HR3.out, if_pos hbig]
      exact ⟨rfl, HB2.out.trans (b3.mono HB2.out.size)⟩
    · obtain ⟨la, ln, lc, rfl, hln⟩ := ol.form
      have hln' := hln.out
      subst hln'
      have HB3 := Lib.hid (HB2.out.trans (b3.mono HB2.out.size))
      have X3 := Lib.hid (X2.out.below b3)
      have OL := Lib.hid (fun V (h : Below w3.heap.size w3 V) => ol.sl.below h)
      have OM := Lib.hid (fun V (h : Below w3.heap.size w3 V) => ownsMap_below hom h hom.lt)
      have HBG := Lib.hid hbig
      clear b3 ol hom hln c0 c1
      by_cases h0 : D.length = 0
      · have t0 : ((D.length : Int) == 0) = true := by rw [h0]; rfl
        have H0 := Lib.hid h0
        go_wp2
        go_ret2
        rw [HR3.out, if_neg HBG.out, if_pos H0.out]
        exact ⟨rfl, HB3.out⟩
      · have t0 : ((D.length : Int) == 0) = false := by rw [beq_eq_false_iff_ne]; omega
        have H0 := Lib.hid h0
        have hD0 : 0 < D.length := by omega
        clear h0
        go_wp2_with (at_make; refine Flat.make FB _ _ _ false rfl rfl rfl D.length rfl rfl rfl rfl (by omega) (FB_made D.length) ?_)
        intro w4 o4 b4 z4
        have h40 : 0 < (List.replicate D.length false).length := by simp; exact hD0
        have g4 := FB_at o4 h40
        have f4 := o4.free 0
        generalize (List.replicate D.length false)[0] = bv at g4
        have o5 := FB_set o4 0 true
        rw [marksL_one] at o5
        have hz5 : (w4.setCell ⟨w3.heap.size, 0, none⟩ (.bool true)).heap.size = w4.heap.size := by simp
        have bA : Below (w4.setCell ⟨w3.heap.size, 0, none⟩ (.bool true)).heap.size (w4.setCell ⟨w3.heap.size, 0, none⟩ (.bool true)) ((w4.setCell ⟨w3.heap.size, 0, none⟩ (.bool true)).alloc (.cells #[.int .i64 (0 : Nat)] 3)) := (Below.refl _ _).alloc (Nat.le_refl _) _
        have l5 := FIn_one (w4.setCell ⟨w3.heap.size, 0, none⟩ (.bool true)) 0 (base := w4.heap.size) (by rw [hz5]; exact Nat.le_refl _)
        rw [hz5] at l5
        have O5 := Lib.hid (o5.below bA)
        have L5 := Lib.hid l5
        have B5 := Lib.hid ((b4.setCell (p := ⟨w3.heap.size, 0, none⟩) (Nat.le_refl _) (.bool true)).trans (bA.mono (by rw [hz5]; exact b4.size)))
        have j1 : (0 : Int) < (D.length : Int) := by omega
        have hz34 : w3.heap.size < w4.heap.size := z4
        clear o4 b4 o5 l5 bA z4 h40 hz5
        go_wp2
        go_loopw [11, 12] (fun lv iv wr => ∃ (p : Nat) (L : List Nat), iv = .int .i64 p ∧ p ≤ L.length ∧ Hid (OkL D.length L) ∧ Hid (runL TT (D.length - p) p L = runL TT D.length 0 [0]) ∧ FB.Own wr w3.heap.size (.slice (some ⟨w3.heap.size, 0, none⟩) D.length D.length) (marksL D.length L) ∧ FIn.Own wr w4.heap.size lv L ∧ Below w3.heap.size w3 wr ∧ w4.heap.size ≤ wr.heap.size) (fun _ iv _ => D.length - (intOf iv).toNat)
        case atStart => exact ⟨0, [0], rfl, by simp, Lib.hid (OkL.one hD0), rfl, O5.out, L5.out, B5.out, by simp⟩
        case round =>
          clear O5 L5 B5 g4 f4
          obtain ⟨p, L, rfl, hp, hI, hrun, hfb, hown, hbw, hzr⟩ := hrel
          have hLn := hI.out.len
          have HBW := Lib.hid hbw
          have HFB := Lib.hid hfb
          have HO := Lib.hid hown
          obtain ⟨ya, yn, yc, rfl, hyn⟩ := FIn_form hown
          have hyn' := hyn.out
          subst hyn'
          by_cases hpl : p < L.length
          · obtain ⟨lb, lo, rfl, _, gl⟩ := FIn_at hown.sl hpl
            obtain ⟨u, hu⟩ : ∃ u, u = L[p] := ⟨_, rfl⟩
            rw [← hu] at gl
            have hun : u < D.length := by rw [hu]; exact hI.out.lt _ (List.getElem_mem hpl)
            obtain ⟨db, dof, xa, xc, hae, hdb, gd3, sd⟩ := (OL.out w3 (Below.refl _ _)).nthJ hun
            have hq : la = some ⟨db, dof, none⟩ := hae
            subst hq
            have gd := (hbw.cell (p := ⟨db, dof + u, none⟩) hdb).trans gd3
            clear gd3
            obtain ⟨x, hx⟩ : ∃ x, x = D[u] := ⟨_, rfl⟩
            have hxm : x ∈ D := by rw [hx]; exact List.getElem_mem hun
            rw [← hx] at gd sd
            have HXM := Lib.hid hxm
            obtain ⟨hxl, hxd⟩ := HMEM.out _ hxm
            have HXL := Lib.hid hxl
            rw [hxl] at gd sd
            have HX := Lib.hid (fun V (h : Below w3.heap.size w3 V) => sd.below h)
            have HTO := Lib.hid (show TT u = (List.range m).flatMap (tgtC D es qn x) from by rw [HTT.out, tosC_at hun, ← hx])
            have HRN := Lib.hid (show runL TT (D.length - (p + 1)) (p + 1) (visAll L (TT u)) = runL TT D.length 0 [0] from by
              have e1 : L.getD p 0 = u := by rw [List.getD_eq_getElem?_getD, List.getElem?_eq_getElem hpl, hu]; rfl
              rw [← hrun.out, show D.length - p = (D.length - (p + 1)) + 1 from by omega, runL_step TT hpl, e1])
            have X4 := Lib.hid (X3.out.below hbw)
            obtain ⟨_, c0, c1⟩ := X4.out
            simp only [Nat.zero_add] at c0 c1
            have i1 : (p : Int) < (L.length : Int) := by omega
            have i0 : (0 : Int) ≤ (p : Int) := by omega
            have i2 : (u : Int) < (D.length : Int) := by omega
            have i3 : (0 : Int) ≤ (u : Int) := by omega
            have HPL := Lib.hid hpl
            have HRW := Lib.hid (Below.refl w3.heap.size wr)
            obtain ⟨wo, hwo⟩ : ∃ wo : World, wo = wr := ⟨_, rfl⟩
            subst hwo
            clear hfb hown hbw hrun hu hx hxm sd hae hxl hxd hpl
            go_wp2
            go_loopw [11, 58] (fun lv iv wi => ∃ (nd : Nat) (L' : List Nat), iv = .int .i64 nd ∧ nd ≤ m ∧ Hid (OkL D.length L') ∧ Hid (L' = visAll L ((List.range nd).flatMap (tgtC D es qn x))) ∧ FB.Own wi w3.heap.size (.slice (some ⟨w3.heap.size, 0, none⟩) D.length D.length) (marksL D.length L') ∧ FIn.Own wi w4.heap.size lv L' ∧ Below w3.heap.size wo wi ∧ w4.heap.size ≤ wi.heap.size) (fun _ iv _ => m - (intOf iv).toNat)
            case atStart => exact ⟨0, L, rfl, Nat.zero_le _, hI, rfl, HFB.out, HO.out, HRW.out, hzr⟩
            case round =>
              clear gl gd c0 c1 HRW
              obtain ⟨wi, hwi⟩ : ∃ wi : World, wi = wr := ⟨_, rfl⟩
              subst hwi
              obtain ⟨nd, L', rfl, hnd, hI', hL', hfb, hown, hbi, hzi⟩ := hrel
              have HB3i := Lib.hid (HBW.out.trans hbi)
              have HFB2 := Lib.hid hfb
              have HO2 := Lib.hid hown
              have HBI := Lib.hid hbi
              by_cases hndm : nd < m
              · obtain ⟨_, c0, c1⟩ := X3.out.below HB3i.out
                simp only [Nat.zero_add] at c0 c1
                have i6 : (nd : Int) < (m : Int) := by omega
                have i7 : (0 : Int) ≤ (nd : Int) := by omega
                have KF := Lib.hid (HFR.out (.slice xa m xc) x nd wi (HB3.out.trans (HB3i.out.mono HB3.out.size)) (HX.out wi HB3i.out) HXL.out)
                have HS1 := Lib.hid (flatN_succ (tgtC D es qn x) nd)
                clear hfb hown hbi
                go_wp2_with fail
                refine KF.out.mono ?_
                rintro e wf ⟨fv, rfl, of, bf⟩
                obtain ⟨fa, fn, fc, rfl, hfn⟩ := of.form
                have hfn' := hfn.out
                subst hfn'
                have hXL := freeL_length es x nd qn
                obtain ⟨FX, hFX⟩ : ∃ FX, FX = freeL es x nd qn := ⟨_, rfl⟩
                have HFX := Lib.hid hFX
                rw [← hFX] at of hXL ⊢
                have OF := Lib.hid of
                have HBf := Lib.hid (HBI.out.trans (bf.mono (Nat.le_trans HBW.out.size HBI.out.size)))
                have HFBf := Lib.hid (HFB2.out.below bf)
                have HOf := Lib.hid (HO2.out.below bf)
                have hzf : w4.heap.size ≤ wf.heap.size := Nat.le_trans hzi bf.size
                have HZI := Lib.hid (show w4.heap.size ≤ wi.heap.size from hzi)
                clear of bf hfn hFX c0 c1 KF
                go_wp2
                go_loopw [11, 67] (fun lv iv wj => ∃ (j : Nat) (L2 : List Nat), iv = .int .i64 j ∧ j ≤ FX.length ∧ Hid (OkL D.length L2) ∧ Hid (L2 = visAll L' ((tgtC D es qn x nd).take j)) ∧ FB.Own wj w3.heap.size (.slice (some ⟨w3.heap.size, 0, none⟩) D.length D.length) (marksL D.length L2) ∧ FIn.Own wj w4.heap.size lv L2 ∧ OwnI wj wi.heap.size (.slice fa FX.length fc) FX ∧ Below w3.heap.size wo wj ∧ w4.heap.size ≤ wj.heap.size) (fun _ iv _ => FX.length - (intOf iv).toNat)
                case atStart => exact ⟨0, L', rfl, Nat.zero_le _, hI', rfl, HFBf.out, HOf.out, OF.out, HBf.out, hzf⟩
                case round =>
                  clear HFBf HOf OF HBf hzf
                  obtain ⟨wj, hwj⟩ : ∃ wj : World, wj = wr := ⟨_, rfl⟩
                  subst hwj
                  obtain ⟨j, L2, rfl, hj, hI2, hL2, hfb, hown, hof, hbj, hzj⟩ := hrel
                  have HB3j := Lib.hid (HBW.out.trans hbj)
                  have HOF := Lib.hid hof
                  have HFB3 := Lib.hid hfb
                  have HO3 := Lib.hid hown
                  have HBJ := Lib.hid hbj
                  have hLn2 := hI2.out.len
                  by_cases hjX : j < FX.length
                  · obtain ⟨cb, co, hce, _, gc⟩ := hof.sl.at_ hjX
                    have hq : fa = some ⟨cb, co, none⟩ := hce
                    subst hq
                    have hcm : FX[j] ∈ freeL es x nd qn := by rw [← HFX.out]; exact List.getElem_mem hjX
                    have hsm := HSET.out x HXM.out nd hndm _ hcm
                    have HTK := Lib.hid (show (tgtC D es qn x nd).take (j + 1) = (tgtC D es qn x nd).take j ++ [idxC D (x.set nd FX[j])] from by
                      have h := tgtC_take (D := D) (es := es) (q := qn) (node := nd) (j := j) (x := x) (by rw [← HFX.out]; exact hjX)
                      simp only [← HFX.out] at h
                      exact h)
                    obtain ⟨cv, hcv⟩ : ∃ cv, cv = FX[j] := ⟨_, rfl⟩
                    rw [← hcv] at gc hsm HTK
                    obtain ⟨hk, hDk, _⟩ := idxC_at hsm
                    obtain ⟨k, hkk⟩ : ∃ k, k = idxC D (x.set nd cv) := ⟨_, rfl⟩
                    have hkn : k < D.length := by rw [hkk]; exact hk
                    have hDk2 : D[k] = x.set nd cv := by subst hkk; exact hDk
                    rw [← hkk] at HTK
                    have HSM := Lib.hid hsm
                    have HAT := Lib.hid (mapC_at HND.out HKI.out hkn D.length hkn (Nat.le_refl _))
                    rw [hDk2] at HAT
                    obtain ⟨hyl, hyd⟩ := HMEM.out _ hsm
                    have h64 : In64 (x.set nd cv) := fun c hc => by have := hyd c hc; omega
                    have KW := Lib.hid (with_any nd cv wj (HX.out wj HB3j.out) (by rw [HXL.out]; exact hndm) (by rw [HXL.out]; omega))
                    have H64 := Lib.hid h64
                    have HYL := Lib.hid hyl
                    have hsz := decsB_small (x := x.set nd cv) (by omega) h64
                    have hkey : keyOf Try.prog 9 (.string (decsB (x.set nd cv) ⟨#[44]⟩)) = some (keyC (x.set nd cv)) := WideMaps.keyOf_string_mk Try.underlying9 (by unfold maxLen; omega)
                    have HKEY := Lib.hid hkey
                    have i8 : (k : Int) < (D.length : Int) := by omega
                    have i9 : (0 : Int) ≤ (k : Int) := by omega
                    have ia : (j : Int) < (FX.length : Int) := by omega
                    have ib : (0 : Int) ≤ (j : Int) := by omega
                    have HLV := Lib.hid (show visAll L' ((tgtC D es qn x nd).take (j + 1)) = visit L2 k from by rw [HTK.out, visAll_add, ← hL2.out])
                    have HKK := Lib.hid hkn
                    clear h64 hkey hsz hsm hcm hyl hyd hk hDk hDk2 hkk hcv hce hfb hown hof hbj
                    go_wp2_with fail
                    refine KW.out.mono ?_
                    rintro e w6 ⟨yv, rfl, oy, b6⟩
                    obtain ⟨y1, y2, y3, rfl, hyf⟩ := oy.form
                    have KD := Lib.hid (decimals_any ⟨#[44]⟩ w6 oy.sl (by rw [HYL.out]; omega) H64.out (by decide))
                    have HB6 := Lib.hid b6
                    generalize decsB (x.set nd cv) ⟨#[44]⟩ = kb at HKEY KD
                    clear oy b6 hyf
                    go_wp2_with fail
                    refine KD.out.mono ?_
                    rintro e w7 ⟨rfl, b7⟩
                    have B67 := Lib.hid (HB6.out.trans (b7.mono HB6.out.size))
                    have B7 := Lib.hid (HBJ.out.trans (B67.out.mono (Nat.le_trans HBW.out.size HBJ.out.size)))
                    obtain ⟨cc, hrun, hat, _⟩ := (OM.out w7 (HBW.out.trans B7.out)).lookup_int lawStr Try.underlying58 Try.underlying3 (zeroInt _) HKEY.out
                    rw [HAT.out] at hat
                    simp only [DataW.lit.injEq, Lit.int.injEq, true_and] at hat
                    subst hat
                    have hkm : k < (marksL D.length L2).length := by rw [marksL_len]; exact hkn
                    have fb7 := HFB3.out.below B67.out
                    have gm := FB_at fb7 hkm
                    rw [marksL_get hkm] at gm
                    have fm := fb7.free k
                    have hsz7 := B67.out.size
                    have hls7 : w3.heap.size < w7.heap.size := cell_lt gm
                    generalize hM : decide (k ∈ L2) = Mk at gm
                    have HM := Lib.hid hM
                    clear b7 hM KD fb7
                    cases Mk
                    · have hnm : k ∉ L2 := by have := HM.out; rwa [decide_eq_false_iff_not] at this
                      have HI3 := Lib.hid (hI2.out.new HKK.out hnm)
                      have HV3 := Lib.hid (show L2 ++ [k] = visAll L' ((tgtC D es qn x nd).take (j + 1)) from by rw [HLV.out]; unfold visit; rw [if_neg hnm])
                      have o8 := FB_set (HFB3.out.below B67.out) k true
                      rw [marksL_add] at o8
                      have hzs : (w7.setCell ⟨w3.heap.size, k, none⟩ (.bool true)).heap.size = w7.heap.size := by simp
                      have f8 := Fs.set (S := fun i => i = w3.heap.size) (Fs.refl _ w7) (a := ⟨w3.heap.size, k, none⟩) rfl (.bool true)
                      have l8 := flat_fs2 (HO3.out.below B67.out) f8 (fun i hi => by omega)
                      have of8 := (HOF.out.below B67.out).fs f8 (fun i hi => by have := HZI.out; omega)
                      have b8 : Below w3.heap.size wo (w7.setCell ⟨w3.heap.size, k, none⟩ (.bool true)) := B7.out.setCell (Nat.le_refl _) _
                      have O8 := Lib.hid o8
                      have OF8 := Lib.hid of8
                      have B8 := Lib.hid b8
                      have hll : L2.length < 16777216 := by omega
                      have hz8 : w4.heap.size ≤ (w7.setCell ⟨w3.heap.size, k, none⟩ (.bool true)).heap.size := by rw [hzs]; omega
                      have L8 := Lib.hid (l8.below ((Below.refl _ _).alloc (Nat.le_refl _) (.cells #[.int .i64 k] 3)))
                      clear o8 of8 b8 hnm f8
                      go_wp2_with (at_builtin; refine append_int _ k _ _ rfl rfl rfl l8 hzs rfl hll hz8 ?_)
                      intro v9 w9 o9 b9 g9
                      have hb9 : Below w4.heap.size (w7.setCell ⟨w3.heap.size, k, none⟩ (.bool true)) w9 := ((Below.refl _ _).alloc hz8 _).trans b9
                      have F9 := Lib.hid (FB_inB O8.out hb9 hz34)
                      have OF9 := Lib.hid (OwnI.keptInt (OF8.out.below ((Below.refl _ _).alloc (Nat.le_refl _) (.cells #[.int .i64 k] 3))) L8.out g9)
                      have B9 := Lib.hid (B8.out.trans (hb9.mono (Nat.le_of_lt hz34)))
                      have hz9 : w4.heap.size ≤ w9.heap.size := Nat.le_trans hz8 hb9.size
                      have O9 := Lib.hid o9
                      clear b9 hb9 l8 hz8 hzs o9 g9
                      go_wp2
                      go_roundw
                      case rel => exact ⟨j + 1, L2 ++ [k], by go_num, by omega, HI3, HV3, F9.out, O9.out, OF9.out, B9.out, hz9⟩
                      case measure => simp [intOf]; omega
                    · have hm : k ∈ L2 := by have := HM.out; rwa [decide_eq_true_eq] at this
                      have HV3 := Lib.hid (show L2 = visAll L' ((tgtC D es qn x nd).take (j + 1)) from by rw [HLV.out]; unfold visit; rw [if_pos hm])
                      have hz9 : w4.heap.size ≤ w7.heap.size := by omega
                      clear hm
                      go_wp2
                      go_roundw
                      case rel => exact ⟨j + 1, L2, by go_num, by omega, hI2, HV3, HFB3.out.below B67.out, HO3.out.below B67.out, HOF.out.below B67.out, B7.out, hz9⟩
                      case measure => simp [intOf]; omega
                  · obtain rfl : j = FX.length := by omega
                    have HL3 := Lib.hid (show L2 = visAll L ((List.range (nd + 1)).flatMap (tgtC D es qn x)) from by
                      have h := hL2.out
                      rw [HFX.out, tgtC_all] at h
                      rw [HS1.out, visAll_app, ← hL'.out]; exact h)
                    clear hfb hown hof
                    go_wp2
                    go_roundw
                    case rel => exact ⟨nd + 1, L2, by go_num, by omega, hI2, HL3, HFB3.out, HO3.out, HBJ.out, hzj⟩
                    case measure => simp [intOf]; omega
              · obtain rfl : nd = m := by omega
                have HLL := Lib.hid (show L' = visAll L (TT u) from by rw [HTO.out]; exact hL'.out)
                have HPL2 := Lib.hid (show p + 1 ≤ L'.length from by
                  have h1 := visAll_len L (TT u)
                  have h2 := HPL.out
                  rw [← HLL.out] at h1
                  omega)
                have HRR2 := Lib.hid (show runL TT (D.length - (p + 1)) (p + 1) L' = runL TT D.length 0 [0] from by rw [HLL.out]; exact HRN.out)
                have hDL := hI'.out.len
                have hpp := HPL2.out
                clear hfb hown
                go_wp2
                go_roundw
                case rel => exact ⟨p + 1, L', by go_num, HPL2.out, hI', HRR2, HFB2.out, HO2.out, HB3i.out, hzi⟩
                case measure => simp [intOf]; omega
          · obtain rfl : p = L.length := by omega
            have HFIN := Lib.hid (show L = runL TT D.length 0 [0] from by rw [← hrun.out, runL_end TT (by omega)])
            have HQ := Lib.hid (show ((L.length : Int) == (D.length : Int)) = decide (L.length = D.length) from by
              rw [Bool.eq_iff_iff]; simp; omega)
            clear hfb hown
            go_wp2
            go_ret2
            rw [HR3.out, if_neg HBG.out, if_neg H0.out, ← HFIN.out]
            exact ⟨by rw [HQ.out]; rfl, HB3.out.trans (HBW.out.mono HB3.out.size)⟩
  · have ht : (cd != 0) = true := by simp [hz]
    have HZ := Lib.hid hz
    clear hz
    go_enter Try.func13, Try.ntmps13
    go_wp2_with fail
    refine (colourCode_any n q _ (HA.out _ b1) (OwnII.nil _ 0).sl).mono ?_
    rintro e w2 ⟨rfl, b2⟩
    rw [HCD.out]
    go_wp2
    go_ret2
    rw [HRR.out, if_neg HZ.out]
    exact ⟨rfl, b1.trans (b2.mono b1.size)⟩
end Go.Proofs.Ytjbjkfahfjoigaa
