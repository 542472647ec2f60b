/-
  The line graph: the program's walk.
-/
import Derived.Test.YtbhhihaaiiaagaaLineL
import Derived.Test.YtbhhihaaiiaagaaIndep
import Derived.Test.YtbhhihaaiiaagaaStepLaw
import Derived.Test.YtbhhihaaiiaagaaDecks
namespace Go.Proofs.Ytbhhihaaiiaagaa
open Go.RowKit Go.Sort
theorem OwnII.setLow {w : World} {base : Nat} {v : Value} {xss : List (List Int)} (h : OwnII w base v xss) {a : Addr} (ha : a.block < base) (u : Value) : OwnII (w.setCell a u) base v xss :=
  h.fs (S := fun k => k = a.block) (Fs.set (a := a) (Fs.refl (fun k => k = a.block) w) rfl u) (fun k (hk : k = a.block) => by rw [hk]; exact ha)
theorem cells2_set {w : World} {b : Nat} {x y u : Value} (h : CellsAt w b [x, y]) : CellsAt (w.setCell ⟨b, 1, none⟩ u) b [x, u] := by
  have c0 := h.get 0 _ rfl
  have c1 := h.get 1 _ rfl
  refine ⟨by simpa using h.1, fun i v hv => ?_⟩
  match i, hv with
  | 0, hv => simp at hv; subst hv; simp [go_sem, c0]
  | 1, hv => simp at hv; subst hv; simp [go_sem, c1]
theorem frozen_new {w : World} {cs : Array Value} {T i : Nat} : (w.alloc (.cells cs T)).frozen? ⟨w.heap.size, i, none⟩ = false := by simp [go_sem]
theorem frozen_of_below {w w' : World} {B : Nat} (h : Below B w w') {p : Addr} (hp : p.block < B) (hf : w.frozen? p = false) : w'.frozen? p = false := by
  have := h.block p.block hp
  simpa [World.frozen?, this] using hf
theorem OwnI.two (w : World) {base : Nat} (hb : base ≤ w.heap.size) (x y : Int) : OwnI (w.alloc (.cells #[.int .i64 x, .int .i64 y] 2)) base (.slice (some ⟨w.heap.size, 0, none⟩) 2 2) [x, y] :=
  World.ownsRow_lit (base := base) (e := 2) (size := 1) w #[.int .i64 x, .int .i64 y] 2 hb (by simp [maxLen]) (by simp)
/-- the graph under work -/
structure LineB (w : World) (b : Nat) (n : Int) (v : Value) : Prop where
  c : CellsAt w b [.int .i64 n, v]
  f : w.frozen? ⟨b, 1, none⟩ = false
theorem LineB.below {w w' : World} {b B : Nat} {n : Int} {v : Value} (h : LineB w b n v) (hb : Below B w w') (hB : b < B) : LineB w' b n v :=
  ⟨⟨Nat.lt_of_lt_of_le h.c.1 hb.size, fun i u hu => by rw [hb.cell (p := ⟨b, i, none⟩) hB]; exact h.c.2 i u hu⟩, frozen_of_below hb hB h.f⟩
theorem LineB.set {w : World} {b : Nat} {n : Int} {v : Value} (h : LineB w b n v) (u : Value) : LineB (w.setCell ⟨b, 1, none⟩ u) b n u := ⟨cells2_set h.c, by simpa using h.f⟩
set_option maxRecDepth 100000 in
set_option maxHeartbeats 8000000 in
theorem lineGraph_any {v : Value} {es : List (List Int)} (m : Nat) (n : Int) (w : World) (ha : SlII w v es) (hE : EdgesB m es) (hl : es.length ≤ 25) :
    Calls Try.prog 33 #[.agg #[.int .i64 n, v]] w fun e w' => ∃ r, e = .returned (.agg #[.int .i64 es.length, r]) ∧ OwnII w' w.heap.size r (allE es es.length) ∧ Below w.heap.size w w' := by
  obtain ⟨a, ca, us, rfl, hca, hca', hul, hrd, hrow⟩ := ha
  unfold maxLen at hca'
  have HG := Lib.hid (fun W (h : Below w.heap.size w W) => And.intro (hrd.below h) (fun i hi u hu => (hrow i hi u hu).below h))
  have HU := Lib.hid hul
  have HE := Lib.hid hE
  clear hE hrd hrow hul
  obtain ⟨W1, hW1⟩ : ∃ W1, W1 = w.alloc (.cells #[.int .i64 n, .slice a es.length ca] 29) := ⟨_, rfl⟩
  obtain ⟨W2, hW2⟩ : ∃ W2, W2 = W1.alloc (.cells #[.int .i64 0, .slice none 0 0] 29) := ⟨_, rfl⟩
  obtain ⟨W3, hW3⟩ : ∃ W3, W3 = W2.alloc (.cells #[.int .i64 es.length, .slice none 0 0] 29) := ⟨_, rfl⟩
  have z1 : W1.heap.size = w.heap.size + 1 := by rw [hW1]; simp
  have z2 : W2.heap.size = w.heap.size + 2 := by rw [hW2]; simp [z1]
  have z3 : W3.heap.size = w.heap.size + 3 := by rw [hW3]; simp [z2]
  have b1 : Below w.heap.size w W1 := by rw [hW1]; exact (Below.refl _ _).alloc (Nat.le_refl _) _
  have b2 : Below (w.heap.size + 1) W1 W2 := by rw [hW2]; exact (Below.refl _ _).alloc (by omega) _
  have b3 : Below (w.heap.size + 2) W2 W3 := by rw [hW3]; exact (Below.refl _ _).alloc (by omega) _
  have k1 : CellsAt W1 w.heap.size [.int .i64 n, .slice a es.length ca] := by rw [hW1]; exact CellsAt.new' _ _ _ rfl
  have k2 : LineB W2 (w.heap.size + 1) 0 (.slice none 0 0) := by
    rw [hW2, ← z1]; exact ⟨CellsAt.new' _ _ _ rfl, frozen_new⟩
  have k3 : LineB W3 (w.heap.size + 2) es.length (.slice none 0 0) := by
    rw [hW3, ← z2]; exact ⟨CellsAt.new' _ _ _ rfl, frozen_new⟩
  have k2f : W2.frozen? ⟨w.heap.size + 1, 0, none⟩ = false := by rw [hW2, ← z1]; exact frozen_new
  have B3 := Lib.hid b3
  have B12 := Lib.hid (b2.trans (b3.mono (by omega)))
  have B1 := Lib.hid b1
  have K1 := Lib.hid k1
  have K2 := Lib.hid (And.intro k2 k2f)
  have Z3 := Lib.hid z3
  have Z1 := Lib.hid z1
  have own0 : OwnII W3 (w.heap.size + 3) (.slice none 0 0) (allE es 0) := OwnII.nil _ _
  have K3 := Lib.hid k3
  have HW1 := Lib.hid hW1
  have HW2 := Lib.hid hW2
  have HW3 := Lib.hid hW3
  have O0 := Lib.hid own0
  clear b1 b2 b3 k1 k2 k2f k3 z1 z2 z3 hW1 hW2 hW3 own0
  go_enter Try.func33, Try.ntmps33
  go_wp2
  rw [← HW1.out, ← HW2.out, ← HW3.out]
  go_loopw [4, 5, 6, 7, 15] (fun _ _ _ _ i wr => ∃ (k : Nat) (v : Value), k ≤ es.length ∧ i = .int .i64 k ∧ LineB wr (w.heap.size + 2) es.length v ∧ OwnII wr (w.heap.size + 3) v (allE es k) ∧ Below (w.heap.size + 2) W3 wr) (fun _ _ _ _ i _ => es.length - (intOf i).toNat)
  case atStart => exact ⟨0, _, Nat.zero_le _, rfl, K3.out, O0.out, Below.refl _ _⟩
  case round =>
    obtain ⟨k, v, hk, rfl, hline, hown, hbr⟩ := hrel
    have hbw : Below w.heap.size w wr := B1.out.trans ((B12.out.trans (hbr.mono (by omega))).mono (by omega))
    by_cases hlt : k < es.length
    · obtain ⟨x, hx⟩ : ∃ x, us[k]? = some x := ⟨_, List.getElem?_eq_getElem (by rw [HU.out]; exact hlt)⟩
      obtain ⟨b, off, rfl, gc⟩ := (HG.out _ hbw).1.one hx
      obtain ⟨a0, a1, he, _, _⟩ := HE.out es[k] (List.getElem_mem hlt)
      have SX := Lib.hid (fun W (h : Below w.heap.size w W) => show SlI W x [(a0 : Int), (a1 : Int)] by have := (HG.out W h).2 k hlt x hx; rw [he] at this; exact this)
      have i1 : (k : Int) < (es.length : Int) := by omega
      have i0 : (0 : Int) ≤ (k : Int) := by omega
      have hek : es.getD k [] = [(a0 : Int), (a1 : Int)] := by rw [getD_at hlt, he]
      have HEK := Lib.hid hek
      obtain ⟨xa, xc, hxe, _⟩ := SX.out _ hbw
      simp only [List.length_cons, List.length_nil, Nat.zero_add] at hxe
      subst hxe
      have HL := Lib.hid hline
      have HO := Lib.hid hown
      have HBW := Lib.hid hbw
      have HBR := Lib.hid hbr
      have ak := allE_len es k
      have akk : k * es.length ≤ 24 * 25 := Nat.mul_le_mul (by omega) hl
      have AK := Lib.hid (Nat.le_trans ak akk)
      clear hline hown hbw hbr hx he hek ak akk
      go_wp2
      go_loopw [6, 7] (fun j _ wr => ∃ (q : Nat) (v' : Value), k + 1 ≤ q ∧ q ≤ es.length ∧ j = .int .i64 q ∧ LineB wr (w.heap.size + 2) es.length v' ∧ OwnII wr (w.heap.size + 3) v' (allE es k ++ rowE es k q) ∧ Below (w.heap.size + 2) W3 wr) (fun j _ _ => es.length - (intOf j).toNat)
      case atStart => exact ⟨k + 1, _, Nat.le_refl _, by omega, by go_num, HL.out, by rw [rowE_start, List.append_nil]; exact HO.out, HBR.out⟩
      case round =>
        clear gc HL HO HBW HBR
        obtain ⟨q, v', hkq, hql, rfl, hline, hown, hbr⟩ := hrel
        have hbw : Below w.heap.size w wr := B1.out.trans ((B12.out.trans (hbr.mono (by omega))).mono (by omega))
        have hb1 : Below (w.heap.size + 1) W1 wr := B12.out.trans (hbr.mono (by omega))
        have hz1 := Z1.out
        have K1r := K1.out.below (by rw [hz1]; exact hb1)
        have c0 := K1r.get 0 _ rfl
        have c1 := K1r.get 1 _ rfl
        have HL := Lib.hid hline
        have HO := Lib.hid hown
        have HBR := Lib.hid hbr
        clear hz1 K1r hb1
        by_cases hqt : q < es.length
        · obtain ⟨y, hy⟩ : ∃ y, us[q]? = some y := ⟨_, List.getElem?_eq_getElem (by rw [HU.out]; exact hqt)⟩
          obtain ⟨b', off', he', gq⟩ := (HG.out _ hbw).1.one hy
          simp only [Option.some.injEq, Addr.mk.injEq] at he'
          obtain ⟨rfl, rfl, _⟩ := he'
          obtain ⟨e0, e1, he, _, _⟩ := HE.out es[q] (List.getElem_mem hqt)
          have SY := Lib.hid (show SlI wr y [(e0 : Int), (e1 : Int)] by have := (HG.out wr hbw).2 q hqt y hy; rw [he] at this; exact this)
          have heq : es.getD q [] = [(e0 : Int), (e1 : Int)] := by rw [getD_at hqt, he]
          have hsh : shareL (es.getD k []) (es.getD q []) = (decide ((a0 : Int) ∈ [(e0 : Int), (e1 : Int)]) || decide ((a1 : Int) ∈ [(e0 : Int), (e1 : Int)])) := by rw [HEK.out, heq, shareL_comm]; rfl
          generalize hd1 : decide ((a0 : Int) ∈ [(e0 : Int), (e1 : Int)]) = d1 at hsh
          generalize hd2 : decide ((a1 : Int) ∈ [(e0 : Int), (e1 : Int)]) = d2 at hsh
          have H1 := Lib.hid hd1
          have H2 := Lib.hid hd2
          have HSH := Lib.hid hsh
          have i2 : (q : Int) < (es.length : Int) := by omega
          have i3 : (0 : Int) ≤ (q : Int) := by omega
          obtain ⟨ya, yc, hye, _⟩ := SY.out
          simp only [List.length_cons, List.length_nil, Nat.zero_add] at hye
          subst hye
          obtain ⟨_, _, hxe, _, _, ur⟩ := SX.out _ hbw
          simp only [List.length_cons, List.length_nil, Nat.zero_add, Value.slice.injEq] at hxe
          obtain ⟨rfl, _, rfl⟩ := hxe
          obtain ⟨eb, eo, rfl, g0⟩ := ur.one (i64s_get (j := 0) (by simp))
          obtain ⟨eb', eo', he2, g1⟩ := ur.one (i64s_get (j := 1) (by simp))
          simp only [Option.some.injEq, Addr.mk.injEq] at he2
          obtain ⟨rfl, rfl, _⟩ := he2
          simp only [Nat.add_zero, List.getElem_cons_zero, List.getElem_cons_succ] at g0 g1
          have hlw := hline.c.1
          have HLW := Lib.hid hlw
          clear hsh hd1 hd2 he heq hy hline hown hbr ur
          cases d1
          · go_wp2_with fail
            refine (Contains_q H1.out _ SY.out).mono ?_
            rintro e w2 ⟨rfl, b2⟩
            have g1' := b2.cell (p := ⟨eb, eo + 1, none⟩) (cell_lt g1)
            rw [g1] at g1'
            go_wp2_with fail
            refine (Contains_q H2.out _ (SY.out.below b2)).mono ?_
            rintro e wq ⟨rfl, b3⟩
            have bq0 := b2.trans (b3.mono b2.size)
            clear g1'
            cases d2
            · have HL2 := Lib.hid (HL.out.below bq0 HLW.out)
              have HO2 := Lib.hid (HO.out.below bq0)
              have HB2 := Lib.hid (HBR.out.trans (bq0.mono (by have := HLW.out; omega)))
              clear g0 g1 gq c0 c1 bq0 hbw
              go_wp2
              go_roundw
              case rel => exact ⟨q + 1, _, by omega, by omega, by go_num, HL2.out, by rw [rowE_no (HSH.out.trans (by simp))]; exact HO2.out, HB2.out⟩
              case measure => simp [intOf]; omega
            · have HL2 := Lib.hid (HL.out.below bq0 HLW.out)
              have HO2 := Lib.hid (HO.out.below bq0)
              have HB2 := Lib.hid (HBR.out.trans (bq0.mono (by have := HLW.out; omega)))
              have hzq := HL2.out.c.1
              have p0 := HL2.out.c.get 0 _ rfl
              have p1 := HL2.out.c.get 1 _ rfl
              have hrl := rowE_len es k q
              have HLN := Lib.hid (show (allE es k ++ rowE es k q).length < 16777216 by have := AK.out; rw [List.length_append]; omega)
              clear g0 g1 gq c0 c1 bq0 hbw hrl
              go_wp2_with (at_builtin; refine append_row wq _ _ _ rfl rfl rfl HO2.out ((Below.refl _ _).alloc (Nat.le_refl _) _) (OwnI.two wq (Nat.le_refl _) (k : Int) (q : Int)) (by simp [go_sem]) HLN.out (by omega) ?_)
              intro v5 w5 o5 b5 z5
              have hb5 : Below (w.heap.size + 3) wq w5 := ((((Below.refl wq.heap.size wq).alloc (Nat.le_refl _) _).alloc (by simp) _).mono (by omega)).trans b5
              have l5 := HL2.out.below hb5 (by omega)
              have f5 := l5.f
              have r5 := l5.c.get 1 _ rfl
              have s5 := l5.c.1
              obtain ⟨oa, on, oc, rfl, _⟩ := o5.form
              rw [← rowE_yes (by omega) (HSH.out.trans (by simp))] at o5
              have L5 := Lib.hid l5
              have O5 := Lib.hid o5
              have B5 := Lib.hid (HB2.out.trans (hb5.mono (by omega)))
              clear l5 o5 hb5 b5 p0 p1 z5
              go_wp2
              go_roundw
              case rel => exact ⟨q + 1, _, by omega, by omega, by go_num, L5.out.set _, O5.out.setLow (by simp) _, B5.out.setCell (by simp) _⟩
              case measure => simp [intOf]; omega
          · go_wp2_with fail
            refine (Contains_q H1.out _ SY.out).mono ?_
            rintro e wq ⟨rfl, bq0⟩
            have HL2 := Lib.hid (HL.out.below bq0 HLW.out)
            have HO2 := Lib.hid (HO.out.below bq0)
            have HB2 := Lib.hid (HBR.out.trans (bq0.mono (by have := HLW.out; omega)))
            have hzq := HL2.out.c.1
            have p0 := HL2.out.c.get 0 _ rfl
            have p1 := HL2.out.c.get 1 _ rfl
            have hrl := rowE_len es k q
            have HLN := Lib.hid (show (allE es k ++ rowE es k q).length < 16777216 by have := AK.out; rw [List.length_append]; omega)
            clear g0 g1 gq c0 c1 bq0 hbw hrl
            go_wp2_with (at_builtin; refine append_row wq _ _ _ rfl rfl rfl HO2.out ((Below.refl _ _).alloc (Nat.le_refl _) _) (OwnI.two wq (Nat.le_refl _) (k : Int) (q : Int)) (by simp [go_sem]) HLN.out (by omega) ?_)
            intro v5 w5 o5 b5 z5
            have hb5 : Below (w.heap.size + 3) wq w5 := ((((Below.refl wq.heap.size wq).alloc (Nat.le_refl _) _).alloc (by simp) _).mono (by omega)).trans b5
            have l5 := HL2.out.below hb5 (by omega)
            have f5 := l5.f
            have r5 := l5.c.get 1 _ rfl
            have s5 := l5.c.1
            obtain ⟨oa, on, oc, rfl, _⟩ := o5.form
            rw [← rowE_yes (by omega) (HSH.out.trans (by simp))] at o5
            have L5 := Lib.hid l5
            have O5 := Lib.hid o5
            have B5 := Lib.hid (HB2.out.trans (hb5.mono (by omega)))
            clear l5 o5 hb5 b5 p0 p1 z5
            go_wp2
            go_roundw
            case rel => exact ⟨q + 1, _, by omega, by omega, by go_num, L5.out.set _, O5.out.setLow (by simp) _, B5.out.setCell (by simp) _⟩
            case measure => simp [intOf]; omega
        · obtain rfl : q = es.length := by omega
          rw [← allE_succ] at hown
          have HO2 := Lib.hid hown
          clear hline hown hbr
          go_wp2
          go_roundw
          case rel => exact ⟨k + 1, _, by omega, by go_num, HL.out, HO2.out, HBR.out⟩
          case measure => simp [intOf]; omega
    · obtain rfl : k = es.length := by omega
      obtain ⟨kk2, kf0⟩ := K2.out
      have k2r := (kk2.below B3.out (by omega)).below hbr (by omega)
      have f0 := frozen_of_below (p := ⟨w.heap.size + 1, 0, none⟩) (B3.out.trans hbr) (by simp) kf0
      have f1 := k2r.f
      have q0 := k2r.c.get 0 _ rfl
      have q1 := k2r.c.get 1 _ rfl
      have p0 := hline.c.get 0 _ rfl
      have p1 := hline.c.get 1 _ rfl
      have zr := k2r.c.1
      obtain ⟨oa, on, oc, rfl, _⟩ := hown.form
      have HO := Lib.hid hown
      have HBW := Lib.hid hbw
      clear kk2 kf0 k2r hline hown hbw hbr
      go_wp2
      refine bodyPost_ret (v := .agg #[.int .i64 es.length, .slice oa on oc]) (by simp [results, Try.results33, go_sem, q0, q1, p0, p1, zr]) rfl ⟨_, rfl, ?_, ?_⟩
      · exact ((HO.out.setLow (by simp) _).setLow (by simp) _).lower (by omega)
      · exact (HBW.out.setCell (by simp) _).setCell (by simp) _
end Go.Proofs.Ytbhhihaaiiaagaa
