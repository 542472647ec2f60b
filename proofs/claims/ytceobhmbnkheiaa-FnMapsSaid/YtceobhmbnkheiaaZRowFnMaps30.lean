/-
  The maps of all draws: the reference's walk. With it: Maps one behind the other: what both walks want. The maps of all draws: the program's walk.
-/
import Derived.Test.YtceobhmbnkheiaaZRowFnMaps24
import Derived.Test.YtceobhmbnkheiaaZRowFnMaps19
import Derived.Maps.AppendAt
import Derived.Test.YtceobhmbnkheiaaZRowFnMaps1
import Derived.Test.YtceobhmbnkheiaaZRowFnMaps4
set_option linter.unusedVariables false
set_option linter.unusedSimpArgs false
namespace Go.Proofs.Ytceobhmbnkheiaa
open Go.RowKit Go.Sort
/-- a map under work -/
structure Box2 (w : World) (b : Nat) (y : Int) (v : Value) : Prop where
  c : CellsAt w b [.int .i64 y, v]
  f : ∀ i, w.frozen? ⟨b, i, none⟩ = false
theorem Box2.fs {S : Nat → Prop} {w w' : World} {b : Nat} {y : Int} {v : Value} (h : Box2 w b y v) (hf : Fs S w w') (hS : ¬ S b) : Box2 w' b y v :=
  ⟨h.c.fs hf hS, fun i => by rw [hf.frozen (p := ⟨b, i, none⟩) h.c.1 hS]; exact h.f i⟩
theorem Box2.below {w w' : World} {b : Nat} {y : Int} {v : Value} (h : Box2 w b y v) (hb : Below w.heap.size w w') : Box2 w' b y v := h.fs (S := fun _ => False) (Fs.of_below hb) (fun h => h)
theorem Box2.set {w : World} {b : Nat} {y : Int} {v : Value} (h : Box2 w b y v) (u : Value) : Box2 (w.setCell ⟨b, 1, none⟩ u) b y u := by
  have c0 := h.c.get 0 _ rfl
  have c1 := h.c.get 1 _ rfl
  refine ⟨⟨by simpa using h.c.1, fun i v hv => ?_⟩, fun i => by simpa using h.f i⟩
  match i, hv with
  | 0, hv => simp at hv; subst hv; simp [go_sem, c0]
  | 1, hv => simp at hv; subst hv; simp [go_sem, c1]
theorem Box2.set0 {w : World} {b : Nat} {y : Int} {v : Value} (h : Box2 w b y v) (z : Int) : Box2 (w.setCell ⟨b, 0, none⟩ (.int .i64 z)) b z v := by
  have c0 := h.c.get 0 _ rfl
  have c1 := h.c.get 1 _ rfl
  refine ⟨⟨by simpa using h.c.1, fun i v hv => ?_⟩, fun i => by simpa using h.f i⟩
  match i, hv with
  | 0, hv => simp at hv; subst hv; simp [go_sem, c0]
  | 1, hv => simp at hv; subst hv; simp [go_sem, c1]

theorem Box2.new (w : World) (y : Int) (v : Value) : Box2 (w.alloc (.cells #[.int .i64 y, v] 43)) w.heap.size y v :=
  ⟨CellsAt.new w [.int .i64 y, v] 43, fun i => by simp [go_sem]⟩
/-- append(v, Map{y, u}) on owned maps, with what stays -/
theorem append_mapS {ops : Array Oper} {rest : List Oper} {o : Oper} {a : Act} {Q : Exit → Act → World → Prop} (w : World) (s x : Operand) (hg : o.guard = none)
    (ho : o.op = .call { callee := .builtin .append, args := #[s, x], argTypes := #[24, 24] })
    {base : Nat} {v u : Value} {ms : List (Int × List Int)} {y : Int} {xs : List Int} (hs : a.eval s = v) (hown : OwnM w base v ms) (hu : OwnI w base u xs) {t g0 : Nat} (hg0 : w.heap.size = g0) (hx : a.eval x = .slice (some ⟨g0, 0, none⟩) 1 1)
    (hlen : ms.length < 16777216) (hbase : base ≤ w.heap.size)
    (h : ∀ v' w', OwnM w' base v' (ms ++ [(y, xs)]) → Fs (fun k => v.ownBlock = some k) w w' → (∀ k, k < w.heap.size → v.ownBlock ≠ some k → v'.ownBlock ≠ some k) → Below base w w' → wpList Try.prog ops Q rest (a.put o.dst v') w') : wpList Try.prog ops Q (o :: rest) a (w.alloc (.cells #[.int .i64 y, u] t)) := by
  subst hg0
  obtain ⟨us, h1, h2⟩ := hown
  have hu1 : u.oneCell' = true := by
    rcases hu.2 with ⟨rfl, _⟩ | ⟨g, c, cur, rfl, _⟩ <;> rfl
  have bx : Below w.heap.size w (w.alloc (.cells #[.int .i64 y, u] t)) := (Below.refl _ _).alloc (Nat.le_refl _) _
  have h1' := h1.below bx
  have hu' := hu.below bx
  obtain ⟨i0, hi, hz0, hz1, hz2⟩ := info_parts FM.inf
  have hr := rd_new w #[.int .i64 y, u] t
  refine wpList_append_own_at _ hg s x _ ho base FM.E i0 FM.z FM.size FM.bytes FM.und hi hz0 hz1 hz2 FM.zsz FM.pos v us.length (FM.encs us) hs h1' _ 1 1 (FM.encs [(y, ⟨u, hu1⟩)]) hx (FM.encs_length _) ?_ (fun u hu => FM.encs_one hu) (by rw [h2.1]; simp [maxLen]; omega) ?_ (by simp; omega) (fun v' w' k1 k2 _ k4 => ?_)
  · intro j u0 hu0
    obtain ⟨b, off, he, _, hc⟩ := hr j u0 hu0
    simp at he
    obtain ⟨rfl, rfl⟩ := he
    unfold Addr.add
    by_cases hj : j = 0
    · subst hj; simpa using hc
    · simpa [hj] using hc
  · show (us.length + 1) * 32 ≤ _
    rw [h2.1]; omega
  · have k1' : FM.Own w' base v' (us ++ [(y, ⟨u, hu1⟩)]) := by
      unfold Flat.Own
      rw [FM.encs_append, List.length_append]
      exact k1
    have k3 : Below base (w.alloc (.cells #[.int .i64 y, u] t)) w' := (Below.refl _ _).grown k2 (by simp; omega) (fun k hk => (h1'.lt k hk).1)
    have key : ∀ (v0 : Value) (zs : List Int), OwnI (w.alloc (.cells #[.int .i64 y, u] t)) base v0 zs → OwnI w' base v0 zs := fun v0 zs ho => ho.kept k2 (by
      cases hb : v0.ownBlock with
      | none => exact .inl rfl
      | some g => exact .inr (Ne.symm (ho.apartM h1' hb)))
    refine h v' w' ⟨_, k1', by simp [h2.1], fun i u0 m hi hm => ?_⟩ ?_ ?_ (((Below.refl _ _).alloc hbase _).trans k3)
    · have hul := h2.1
      by_cases hlt : i < us.length
      · rw [List.getElem?_append_left hlt] at hi
        rw [List.getElem?_append_left (by rw [← h2.1]; exact hlt)] at hm
        obtain ⟨e1, e2⟩ := h2.2 i u0 m hi hm
        exact ⟨e1, key _ _ (e2.below bx)⟩
      · rw [List.getElem?_append_right (by omega)] at hi hm
        have h0 : i - us.length = 0 := by
          rcases Nat.eq_zero_or_pos (i - us.length) with e | e
          · exact e
          · rw [List.getElem?_eq_none (by simp; omega)] at hi; simp at hi
        rw [h0] at hi
        rw [← h2.1, h0] at hm
        simp at hi hm
        subst hi hm
        exact ⟨rfl, key _ _ hu'⟩
    · exact (Fs.of_below bx).trans (Fs.of_grown k2 (fun g hg => hg))
    · intro k hk hne
      rcases k4 with k4 | k4
      · rw [k4]; exact hne
      · rw [k4]; simp; omega
theorem OwnM.blk {w : World} {base : Nat} {v : Value} {ms : List (Int × List Int)} (h : OwnM w base v ms) {k : Nat} (hk : v.ownBlock = some k) : base ≤ k ∧ k < w.heap.size := by
  obtain ⟨us, h1, _⟩ := h
  exact h1.lt k hk
theorem thenM_row {ms ns : List (Int × List Int)} {i : Nat} (h : i < ms.length) : thenM (ms.take (i + 1)) ns = thenM (ms.take i) ns ++ ns.map (thenOne ms[i]) := by
  unfold thenM
  rw [List.take_succ_eq_append_getElem h, List.flatMap_append]; simp
def thenP (ms ns : List (Int × List Int)) (i k : Nat) : List (Int × List Int) := thenM (ms.take i) ns ++ (ns.take k).map (thenOne (ms.getD i (0, [])))
theorem thenP_zero (ms ns : List (Int × List Int)) (i : Nat) : thenP ms ns i 0 = thenM (ms.take i) ns := by simp [thenP]
theorem thenP_all {ms ns : List (Int × List Int)} {i : Nat} (h : i < ms.length) : thenP ms ns i ns.length = thenM (ms.take (i + 1)) ns := by
  rw [thenM_row h]; unfold thenP
  rw [List.take_length, List.getD_eq_getElem?_getD, List.getElem?_eq_getElem h]; rfl
theorem thenP_succ {ms ns : List (Int × List Int)} {i k : Nat} (hi : i < ms.length) (hk : k < ns.length) : thenP ms ns i (k + 1) = thenP ms ns i k ++ [thenOne ms[i] ns[k]] := by
  unfold thenP
  rw [List.take_succ_eq_append_getElem hk, List.map_append, List.getD_eq_getElem?_getD, List.getElem?_eq_getElem hi, List.append_assoc]; rfl
theorem thenP_len {ms ns : List (Int × List Int)} {i k : Nat} (hi : i < ms.length) (hk : k ≤ ns.length) : (thenP ms ns i k).length ≤ ms.length * ns.length := by
  unfold thenP
  rw [List.length_append, then_len, List.length_map, List.length_take, List.length_take, Nat.min_eq_left (by omega), Nat.min_eq_left hk]
  have : (i + 1) * ns.length ≤ ms.length * ns.length := Nat.mul_le_mul_right _ hi
  rw [Nat.add_mul] at this; omega
def rowT (tl tm : List Int) (j : Nat) : List Int := (tl.take j).map fun k => tm.getD k.toNat 0
theorem rowT_zero (tl tm : List Int) : rowT tl tm 0 = [] := by simp [rowT]
theorem rowT_all (x y : Int × List Int) : (x.1 * y.1, rowT x.2 y.2 x.2.length) = thenOne x y := by unfold rowT thenOne; rw [List.take_length]
theorem rowT_succ {tl tm : List Int} {j y : Nat} (h : j < tl.length) (hy : tl[j] = (y : Int)) (h2 : y < tm.length) : rowT tl tm (j + 1) = rowT tl tm j ++ [tm[y]] := by
  unfold rowT
  rw [List.take_succ_eq_append_getElem h, List.map_append]
  congr 1
  simp only [List.map_cons, List.map_nil, hy, Int.toNat_natCast]
  rw [List.getD_eq_getElem?_getD, List.getElem?_eq_getElem h2]; rfl
theorem rowT_len (tl tm : List Int) (j : Nat) : (rowT tl tm j).length ≤ tl.length := by unfold rowT; rw [List.length_map, List.length_take]; omega
end Go.Proofs.Ytceobhmbnkheiaa
namespace Go.Proofs.Ytceobhmbnkheiaa
open Go.RowKit Go.Sort
/-- rows of a valid chain -/
def RowsD (n T : Nat) (xss : List (List Int)) : Prop := xss.length = n ∧ (1 ≤ n ∧ n ≤ 6) ∧ (1 ≤ T ∧ T ≤ 60) ∧ ∀ s, s < n → (xss.getD s []).length = n ∧ (∀ x ∈ xss.getD s [], 0 ≤ x ∧ x ≤ (T : Int)) ∧ (xss.getD s []).sum = T
theorem chain_rowsD {n T : Nat} {ms : List (Int × List Int)} (h : mapsOk n T ms) : RowsD n T (chainM n ms) := by
  obtain ⟨h1, h2, _⟩ := id h
  exact ⟨chainM_len n ms, by omega, by omega, fun s hs => chain_rows h hs⟩
theorem RowsD.row {n T : Nat} {xss : List (List Int)} (h : RowsD n T xss) {s : Nat} (hs : s < n) : ∃ hl : s < xss.length, xss.getD s [] = xss[s] ∧ RowB xss[s] ∧ (xss[s].length : Int) = n := by
  have hl : s < xss.length := by rw [h.1]; exact hs
  have e : xss.getD s [] = xss[s] := by rw [List.getD_eq_getElem?_getD, List.getElem?_eq_getElem hl]; rfl
  obtain ⟨h1, h2, _⟩ := h.2.2.2 s hs
  rw [e] at h1 h2
  exact ⟨hl, e, ⟨by have := h.2.1; omega, fun x hx => by have := h2 x hx; have := h.2.2.1; omega⟩, by omega⟩
theorem RowsD.step {n T : Nat} {xss : List (List Int)} (h : RowsD n T xss) {s d : Nat} (hs : s < n) (hd : d < T) : ∃ i : Nat, toOf (xss.getD s []) d = some i ∧ stepI (xss.getD s []) d = (i : Int) := by
  obtain ⟨h1, h2, h3⟩ := h.2.2.2 s hs
  obtain ⟨i, h4, _, h5⟩ := stepI_some (r := xss.getD s []) (d := (d : Int)) (fun x hx => (h2 x hx).1) (by intro e; rw [e] at h1; simp at h1; have := h.2.1; omega) (by rw [h3]; omega)
  exact ⟨i, h4, h5⟩
def dRow (xss : List (List Int)) (d j : Nat) : List Int := (List.range j).map fun s => stepI (xss.getD s []) (d : Int)
def drawsP (n : Nat) (xss : List (List Int)) (q : Nat) : List (Int × List Int) := (List.range q).map fun (d : Nat) => ((1 : Int), dRow xss d n)
theorem dRow_succ (xss : List (List Int)) (d j : Nat) : dRow xss d (j + 1) = dRow xss d j ++ [stepI (xss.getD j []) (d : Int)] := by unfold dRow; rw [List.range_succ, List.map_append]; rfl
theorem dRow_len (xss : List (List Int)) (d j : Nat) : (dRow xss d j).length = j := by simp [dRow]
theorem dRow_zero (xss : List (List Int)) (d : Nat) : dRow xss d 0 = [] := rfl
theorem drawsP_succ (n : Nat) (xss : List (List Int)) (q : Nat) : drawsP n xss (q + 1) = drawsP n xss q ++ [(1, dRow xss q n)] := by unfold drawsP; rw [List.range_succ, List.map_append]; rfl
theorem drawsP_len (n : Nat) (xss : List (List Int)) (q : Nat) : (drawsP n xss q).length = q := by simp [drawsP]
theorem drawsP_all (n T : Nat) (xss : List (List Int)) : drawsP n xss T = drawsM n T xss := rfl

set_option maxRecDepth 100000 in
set_option maxHeartbeats 16000000 in
theorem ImplMapsByDraws_any {v : Value} {xss : List (List Int)} (n T : Nat) (w : World) (ha : SlII w v xss) (hx : RowsD n T xss) (hok : chainOk n T xss = true) :
    Calls Try.prog 31 #[.agg #[.int .i64 n, .int .i64 T, v]] w fun e w' => ∃ r, e = .returned (.tuple #[.agg #[.int .i64 n, .int .i64 T, r], .int .i64 0]) ∧ OwnM w' w.heap.size r (drawsM n T xss) ∧ Below w.heap.size w w' := by
  have HA := Lib.hid (fun W (h : Below w.heap.size w W) => ha.below h)
  obtain ⟨a, ca, rfl, hca, hca2⟩ := ha.formJ
  have HXS := Lib.hid hx
  have HOK := Lib.hid hok
  obtain ⟨hxl, ⟨hn1, hn6⟩, ⟨ht1, ht60⟩, _⟩ := id hx
  obtain ⟨W1, hW1⟩ : ∃ W1, W1 = w.alloc (.cells #[.int .i64 n, .int .i64 T, .slice a xss.length ca] 52) := ⟨_, rfl⟩
  obtain ⟨W2, hW2⟩ : ∃ W2, W2 = W1.alloc (.cells #[.int .i64 0, .int .i64 0, .slice none 0 0] 26) := ⟨_, rfl⟩
  have z1 : W1.heap.size = w.heap.size + 1 := by rw [hW1]; simp
  have z2 : W2.heap.size = w.heap.size + 1 + 1 := by rw [hW2]; simp [z1]
  have b1 : Below w.heap.size w W1 := by rw [hW1]; exact (Below.refl _ _).alloc (Nat.le_refl _) _
  have b2 : Below W1.heap.size W1 W2 := by rw [hW2]; exact (Below.refl _ _).alloc (Nat.le_refl _) _
  have X := Lib.hid (show MpAt W2 w.heap.size n T (.slice a xss.length ca) from (show MpAt W1 w.heap.size n T (.slice a xss.length ca) by rw [hW1]; exact MpAt.newC w n T _).below b2)
  have XC := Lib.hid (show ChainAt W2 w.heap.size 0 n T (.slice a xss.length ca) from ⟨X.out.1, X.out.2.1, by simpa using X.out.2.2.1, by simpa using X.out.2.2.2⟩)
  have R := Lib.hid (show Box3 W2 (w.heap.size + 1) 0 0 (.slice none 0 0) by rw [hW2, ← z1]; exact Box3.newM W1 0 0 _)
  have BA := Lib.hid (b1.trans (b2.mono b1.size))
  have HW1 := Lib.hid hW1.symm
  have HW2 := Lib.hid hW2.symm
  have Z2 := Lib.hid z2
  obtain ⟨x0, x1, x2, x3⟩ := X.out
  clear ha hx hok hxl hW1 hW2 b1 b2 z1 z2
  go_enter Try.func31, Try.ntmps31
  go_wp2_with fail
  rw [HW1.out, HW2.out]
  refine (ValidChain_any n T _ (HA.out _ BA.out)).mono ?_
  rintro e w3 ⟨he, b3⟩
  rw [HOK.out] at he
  subst he
  have X3 := Lib.hid (fun W (h : Below w3.heap.size w3 W) => (X.out.below b3).below h)
  have B3 := Lib.hid (BA.out.trans (b3.mono BA.out.size))
  have R3 := Lib.hid (R.out.fs (S := fun _ => False) (Fs.of_below b3) (fun h => h))
  have Z3 := Lib.hid (show w.heap.size + 1 + 1 ≤ w3.heap.size by have := b3.size; have := Z2.out; omega)
  clear b3 x0 x1 x2 x3
  obtain ⟨x0, x1, x2, x3⟩ := X3.out _ (Below.refl _ _)
  obtain ⟨W4, hW4⟩ : ∃ W4, W4 = w3.alloc (.cells #[.int .i64 n, .int .i64 T, .slice none 0 0] 26) := ⟨_, rfl⟩
  have b4 : Below w3.heap.size w3 W4 := by rw [hW4]; exact (Below.refl _ _).alloc (Nat.le_refl _) _
  have X4 := Lib.hid (show Box3 W4 w3.heap.size n T (.slice none 0 0) by rw [hW4]; exact Box3.newM w3 n T _)
  have B4 := Lib.hid (B3.out.trans (b4.mono B3.out.size))
  have Z4 := Lib.hid (show W4.heap.size = w3.heap.size + 1 by rw [hW4]; simp)
  have R4 := Lib.hid (R3.out.fs (S := fun _ => False) (Fs.of_below b4) (fun h => h))
  have HX := Lib.hid (fun W (h : Below w3.heap.size W4 W) => X3.out W (b4.trans h))
  have HW4 := Lib.hid hW4.symm
  have B0 := Lib.hid (Below.refl w3.heap.size W4)
  clear b4 hW4
  go_upto_region 4 with (fail)
  rw [HW4.out]
  clear x0 x1 x2 x3
  obtain ⟨x0, x1, x2, x3⟩ := HX.out _ B0.out
  go_wp2
  clear x0 x1 x2 x3
  go_loopw [19] (fun qv wr => ∃ (q : Nat) (v : Value), q ≤ T ∧ qv = .int .i64 q ∧ Box3 wr w3.heap.size n T v ∧ OwnM wr (w3.heap.size + 1) v (drawsP n xss q) ∧ Below w3.heap.size W4 wr) (fun qv _ => T - (intOf qv).toNat)
  case atStart => exact ⟨0, _, Nat.zero_le _, rfl, X4.out, OwnM.nil _ _, B0.out⟩
  case round =>
    clear B0
    obtain ⟨q, v, hq, rfl, hbox, hown, hbw⟩ := hrel
    have HBX := Lib.hid hbox
    have HO := Lib.hid hown
    have HBW := Lib.hid hbw
    have HBw := Lib.hid (B4.out.trans (hbw.mono (by have := Z3.out; omega)))
    have hzr : w3.heap.size + 1 ≤ wr.heap.size := by have := hbw.size; have := Z4.out; omega
    have i0 : (0 : Int) ≤ (q : Int) := by omega
    clear hbw
    obtain ⟨x0, x1, x2, x3⟩ := HX.out _ HBW.out
    by_cases hqT : q < T
    · have i1 : (q : Int) < (T : Int) := by omega
      obtain ⟨wo, rfl⟩ : ∃ wo : World, wo = wr := ⟨_, rfl⟩
      obtain ⟨wa, hwa⟩ : ∃ wa, wa = wo.alloc (.cells #[.int .i64 1, .slice none 0 0] 43) := ⟨_, rfl⟩
      have bA : Below wo.heap.size wo wa := by rw [hwa]; exact (Below.refl _ _).alloc (Nat.le_refl _) _
      have CZ := Lib.hid (show Box2 wa wo.heap.size 1 (.slice none 0 0) by rw [hwa]; exact Box2.new _ _ _)
      have HWA := Lib.hid hwa.symm
      have BOA := Lib.hid bA
      have hza : wo.heap.size + 1 ≤ wa.heap.size := by rw [hwa]; simp
      have hpl : (drawsP n xss q).length < 16777216 := by rw [drawsP_len]; omega
      clear x0 x1 x2 x3
      obtain ⟨x0, x1, x2, x3⟩ := HX.out _ (HBW.out.trans (bA.mono (by omega)))
      clear bA hwa hown hbox
      go_upto_region 8 with (fail)
      rw [HWA.out]
      go_wp2
      clear x0 x1 x2 x3
      go_loopw [25] (fun jv wj => ∃ (j : Nat) (z : Value), j ≤ n ∧ jv = .int .i64 j ∧ Box2 wj wo.heap.size 1 z ∧ OwnI wj (wo.heap.size + 1) z (dRow xss q j) ∧ Below wo.heap.size wa wj) (fun jv _ => n - (intOf jv).toNat)
      case atStart => exact ⟨0, _, Nat.zero_le _, rfl, CZ.out, by rw [dRow_zero]; exact World.ownsRow_nil _ _ _ _, Below.refl _ _⟩
      case round =>
        obtain ⟨j, z, hj, rfl, hbz, hoz, hbj⟩ := hrel
        have HBZ := Lib.hid hbz
        have HOZ := Lib.hid hoz
        have HBJ := Lib.hid hbj
        have HBK := Lib.hid (BOA.out.trans hbj)
        have HBw3 := Lib.hid (HBw.out.trans (HBK.out.mono HBw.out.size))
        have HB3 := Lib.hid (HBW.out.trans (HBK.out.mono (by omega)))
        have j0 : (0 : Int) ≤ (j : Int) := by omega
        obtain ⟨za, zn, zc, rfl, _⟩ := hoz.formJ
        have hzj : wo.heap.size + 1 ≤ wr.heap.size := by have := hbj.size; omega
        by_cases hjn : j < n
        · have j2 : (j : Int) < (n : Int) := by omega
          obtain ⟨x0, x1, x2, x3⟩ := HX.out _ HB3.out
          obtain ⟨hjl, hje, hjB, hjn2⟩ := HXS.out.row hjn
          obtain ⟨t, ht1', ht2'⟩ := HXS.out.step hjn hqT
          have HST := Lib.hid (show dRow xss q (j + 1) = dRow xss q j ++ [(t : Int)] from by rw [dRow_succ, ht2'])
          have HRES := Lib.hid (show ((toOf xss[j] (q : Int)).map Int.ofNat).getD (-1) = (t : Int) from by rw [← hje, ht1']; rfl)
          have HRB := Lib.hid hjB
          have HJL := Lib.hid hjl
          have e1 := hbz.c.get 1 _ rfl
          have hrl : (dRow xss q j).length < 16777216 := by rw [dRow_len]; omega
          clear hoz hbz hbj ht1' ht2' hje hjB hjn2
          go_wp2_with fail
          refine wpX_start (fun W => W.cell? ⟨wo.heap.size, 1, none⟩ = some (.slice za zn zc) ∧ W.cell? ⟨w.heap.size, 0, none⟩ = some (.int .i64 n) ∧ W.cell? ⟨w.heap.size, 1, none⟩ = some (.int .i64 T) ∧ W.cell? ⟨w.heap.size, 2, none⟩ = some (.slice a xss.length ca)) [7, 8, 9] (by kernel_rfl) ?_
          have bd : Below wr.heap.size wr wr.drew := (Below.refl _ _).drew
          have CC := Lib.hid (fun V (h : Below wr.heap.size wr V) => show (fun W : World => W.cell? ⟨wo.heap.size, 1, none⟩ = some (.slice za zn zc) ∧ W.cell? ⟨w.heap.size, 0, none⟩ = some (.int .i64 n) ∧ W.cell? ⟨w.heap.size, 1, none⟩ = some (.int .i64 T) ∧ W.cell? ⟨w.heap.size, 2, none⟩ = some (.slice a xss.length ca)) V from ⟨(h.cell (p := ⟨wo.heap.size, 1, none⟩) (cell_lt e1)).trans e1, (h.cell (p := ⟨w.heap.size, 0, none⟩) (cell_lt x1)).trans x1, (h.cell (p := ⟨w.heap.size, 1, none⟩) (cell_lt x2)).trans x2, (h.cell (p := ⟨w.heap.size, 2, none⟩) (cell_lt x3)).trans x3⟩)
          have hC := CC.out _ bd
          clear e1 x0 x1 x2 x3
          refine wpX_free (i := 0) (v := ?_) rfl (by kernel_rfl) (fun _ _ _ h => h) rfl (fun w' => ?_) ?_
          rotate_left
          · go_simp; try with_reducible rfl
          try simp only [Act.put, List.getElem_toArray, List.getElem_cons_zero, List.getElem_cons_succ, List.setIfInBounds_toArray, List.set_cons_zero, List.set_cons_succ]
          refine wpX_load (i := 1) (v := ?_) rfl (by kernel_rfl) (fun _ _ _ h => h) hC rfl (fun w' hw' => ?_) ?_
          rotate_left
          · obtain ⟨k1, k2, k3, k4⟩ := hw'; go_simp; try with_reducible rfl
          try simp only [Act.put, List.getElem_toArray, List.getElem_cons_zero, List.getElem_cons_succ, List.setIfInBounds_toArray, List.set_cons_zero, List.set_cons_succ]
          refine wpX_load (i := 2) (v := ?_) rfl (by kernel_rfl) (fun _ _ _ h => h) hC rfl (fun w' hw' => ?_) ?_
          rotate_left
          · obtain ⟨k1, k2, k3, k4⟩ := hw'; go_simp; try with_reducible rfl
          try simp only [Act.put, List.getElem_toArray, List.getElem_cons_zero, List.getElem_cons_succ, List.setIfInBounds_toArray, List.set_cons_zero, List.set_cons_succ]
          refine wpX_free (i := 3) (v := ?_) rfl (by kernel_rfl) (fun _ _ _ h => h) rfl (fun w' => ?_) ?_
          rotate_left
          · go_simp; try with_reducible rfl
          try simp only [Act.put, List.getElem_toArray, List.getElem_cons_zero, List.getElem_cons_succ, List.setIfInBounds_toArray, List.set_cons_zero, List.set_cons_succ]
          refine wpX_free (i := 4) (v := ?_) rfl (by kernel_rfl) (fun _ _ _ h => h) rfl (fun w' => ?_) ?_
          rotate_left
          · go_simp; try with_reducible rfl
          try simp only [Act.put, List.getElem_toArray, List.getElem_cons_zero, List.getElem_cons_succ, List.setIfInBounds_toArray, List.set_cons_zero, List.set_cons_succ]
          refine wpX_one (i := 5) rfl (by kernel_rfl) rfl ?_
          intro K2 hK2
          go_simp
          go_at_call 73
          refine (stepByDraw_any n T (q : Int) j _ (HA.out _ (HBw3.out.trans (bd.mono HBw3.out.size))) HJL.out HRB.out).mono ?_
          rintro e ws ⟨he, bq⟩
          rw [HRES.out] at he
          subst he
          have BQ := Lib.hid (bd.trans (bq.mono bd.size))
          refine hK2 _ _ (CC.out _ BQ.out) ?_
          clear hK2 K2
          try simp only [Act.put, List.getElem_toArray, List.getElem_cons_zero, List.getElem_cons_succ, List.setIfInBounds_toArray, List.set_cons_zero, List.set_cons_succ]
          refine wpX_one (i := 6) rfl (by kernel_rfl) rfl ?_
          intro K2 hK2
          go_simp
          refine hK2 _ _ (CC.out _ (BQ.out.alloc BQ.out.size _)) ?_
          clear hK2 K2
          try simp only [Act.put, List.getElem_toArray, List.getElem_cons_zero, List.getElem_cons_succ, List.setIfInBounds_toArray, List.set_cons_zero, List.set_cons_succ]
          refine wpX_rest (t := [7, 8, 9]) (l := [_, _, _]) rfl (by kernel_rfl) (by kernel_rfl) ?_
          try simp only [List.getElem_toArray, List.getElem_cons_zero, List.getElem_cons_succ]
          have oq := Lib.hid (HOZ.out.below BQ.out)
          have hzq : wo.heap.size + 1 ≤ ws.heap.size := Nat.le_trans hzj BQ.out.size
          clear hC bd bq
          go_wp2_with (at_builtin; refine append_i64 _ (t : Int) _ _ rfl rfl rfl oq.out rfl hrl hzq ?_)
          intro v5 w5' o5 b5 z5
          rw [← HST.out] at o5
          have b5' : Below (wo.heap.size + 1) wr w5' := (BQ.out.mono hzj).trans (((Below.refl ws.heap.size ws).alloc (Nat.le_refl _) _ |>.mono hzq).trans b5)
          have Z5' := Lib.hid (HBZ.out.fs (Fs.of_belowB b5') (by omega))
          have O5 := Lib.hid o5
          have B5' := Lib.hid (HBJ.out.trans (b5'.mono (by omega)))
          obtain ⟨va5, vn5, vc5, rfl, _⟩ := o5.formJ
          have e1 := Z5'.out.c.get 1 _ rfl
          have f1 := Z5'.out.f 1
          have el := Z5'.out.c.1
          clear o5 b5 z5 b5' BQ oq
          go_wp2
          go_roundw
          case rel => exact ⟨j + 1, _, by omega, by go_num, Z5'.out.set _, O5.out.fs (Fs.set1 _ _ _ _) (fun k hk => by omega), B5'.out.setCell (by simp) _⟩
          case measure => simp [intOf]; omega
        · obtain rfl : j = n := by omega
          obtain ⟨va, vn, vc, rfl, _⟩ := HO.out.formJ
          have BXK := Lib.hid (HBX.out.fs (S := fun _ => False) (Fs.of_below HBK.out) (fun h => h))
          have HO3 := Lib.hid (HO.out.below HBK.out)
          have HU := Lib.hid (HOZ.out.lower (base' := w3.heap.size + 1) (by omega))
          have hbase : w3.heap.size + 1 ≤ wr.heap.size := by omega
          have c2 := BXK.out.c.get 2 _ rfl
          have e0 := HBZ.out.c.get 0 _ rfl
          have e1 := HBZ.out.c.get 1 _ rfl
          have HSTEP := Lib.hid (drawsP_succ j xss q)
          clear hoz hbz hbj
          go_wp2_with (at_builtin; refine append_mapS wr _ _ rfl rfl rfl HO3.out HU.out rfl rfl hpl hbase ?_)
          intro v7 w7 o7 f7 n7 b7
          rw [← HSTEP.out] at o7
          have X7 := Lib.hid (BXK.out.fs (Fs.of_belowB b7) (by omega))
          have O7 := Lib.hid o7
          have B7 := Lib.hid ((HBW.out.trans (HBK.out.mono (by omega))).trans (b7.mono (by omega)))
          obtain ⟨va7, vn7, vc7, rfl, _⟩ := o7.formJ
          have g2 := X7.out.c.get 2 _ rfl
          have f2 := X7.out.f 2
          have gl := X7.out.c.1
          clear o7 f7 n7 b7 c2 e0 e1
          go_wp2
          go_roundw
          case rel => exact ⟨q + 1, _, by omega, by go_num, X7.out.set _, O7.out.set (by simp) _, B7.out.setCell (by simp) _⟩
          case measure => simp [intOf]; omega
    · obtain rfl : q = T := by omega
      have rb := R4.out.fs (S := fun k => w3.heap.size ≤ k) ⟨HBW.out.os, HBW.out.tape, HBW.out.output, HBW.out.size, fun k _ hk => HBW.out.block k (by omega)⟩ (by have := Z3.out; omega)
      obtain ⟨va, vn, vc, rfl, _⟩ := HO.out.formJ
      have k0 := HBX.out.c.get 0 _ rfl
      have k1 := HBX.out.c.get 1 _ rfl
      have k2 := HBX.out.c.get 2 _ rfl
      have kl := HBX.out.c.1
      have q0 := rb.c.get 0 _ rfl
      have q1 := rb.c.get 1 _ rfl
      have q2 := rb.c.get 2 _ rfl
      have f0 := rb.f 0
      have f1 := rb.f 1
      have f2 := rb.f 2
      have ql := rb.c.1
      have hzz := Z3.out
      clear rb hbox hown x0 x1 x2 x3
      go_wp2
      refine bodyPost_ret (v := .tuple #[.agg #[.int .i64 n, .int .i64 q, .slice va vn vc], .int .i64 0]) (by simp [results, Try.results31, go_sem, q0, q1, q2, ql]) rfl ⟨_, rfl, ?_, ?_⟩
      · exact OwnM.lower (OwnM.set (OwnM.set (OwnM.set HO.out (by simp; omega) _) (by simp; omega) _) (by simp; omega) _) (by omega)
      · exact ((HBw.out.setCell (by simp) _).setCell (by simp) _).setCell (by simp) _
end Go.Proofs.Ytceobhmbnkheiaa
namespace Go.Proofs.Ytceobhmbnkheiaa
open Go.RowKit Go.Sort

set_option maxRecDepth 100000 in
set_option maxHeartbeats 16000000 in
theorem SpecMapsByDraws_any {v : Value} {xss : List (List Int)} (n T : Nat) (w : World) (ha : SlII w v xss) (hx : RowsD n T xss) (hok : chainOk n T xss = true) :
    Calls Try.prog 32 #[.agg #[.int .i64 n, .int .i64 T, v]] w fun e w' => ∃ r, e = .returned (.tuple #[.agg #[.int .i64 n, .int .i64 T, r], .int .i64 0]) ∧ OwnM w' w.heap.size r (drawsM n T xss) ∧ Below w.heap.size w w' := by
  have HA := Lib.hid (fun W (h : Below w.heap.size w W) => ha.below h)
  obtain ⟨a, ca, rfl, hca, hca2⟩ := ha.formJ
  have HXS := Lib.hid hx
  have HOK := Lib.hid hok
  obtain ⟨hxl, ⟨hn1, hn6⟩, ⟨ht1, ht60⟩, _⟩ := id hx
  obtain ⟨W1, hW1⟩ : ∃ W1, W1 = w.alloc (.cells #[.int .i64 n, .int .i64 T, .slice a xss.length ca] 52) := ⟨_, rfl⟩
  obtain ⟨W2, hW2⟩ : ∃ W2, W2 = W1.alloc (.cells #[.int .i64 0, .int .i64 0, .slice none 0 0] 26) := ⟨_, rfl⟩
  have z1 : W1.heap.size = w.heap.size + 1 := by rw [hW1]; simp
  have z2 : W2.heap.size = w.heap.size + 1 + 1 := by rw [hW2]; simp [z1]
  have b1 : Below w.heap.size w W1 := by rw [hW1]; exact (Below.refl _ _).alloc (Nat.le_refl _) _
  have b2 : Below W1.heap.size W1 W2 := by rw [hW2]; exact (Below.refl _ _).alloc (Nat.le_refl _) _
  have X := Lib.hid (show MpAt W2 w.heap.size n T (.slice a xss.length ca) from (show MpAt W1 w.heap.size n T (.slice a xss.length ca) by rw [hW1]; exact MpAt.newC w n T _).below b2)
  have XC := Lib.hid (show ChainAt W2 w.heap.size 0 n T (.slice a xss.length ca) from ⟨X.out.1, X.out.2.1, by simpa using X.out.2.2.1, by simpa using X.out.2.2.2⟩)
  have R := Lib.hid (show Box3 W2 (w.heap.size + 1) 0 0 (.slice none 0 0) by rw [hW2, ← z1]; exact Box3.newM W1 0 0 _)
  have BA := Lib.hid (b1.trans (b2.mono b1.size))
  have HW1 := Lib.hid hW1.symm
  have HW2 := Lib.hid hW2.symm
  have Z2 := Lib.hid z2
  obtain ⟨x0, x1, x2, x3⟩ := X.out
  clear ha hx hok hxl hW1 hW2 b1 b2 z1 z2
  go_enter Try.func32, Try.ntmps32
  go_wp2_with fail
  rw [HW1.out, HW2.out]
  refine (l01Ok_any _ 0 n T _ XC.out (HA.out _ BA.out)).mono ?_
  rintro e w3 ⟨he, b3⟩
  rw [HOK.out] at he
  subst he
  have X3 := Lib.hid (fun W (h : Below w3.heap.size w3 W) => (X.out.below b3).below h)
  have B3 := Lib.hid (BA.out.trans (b3.mono BA.out.size))
  have R3 := Lib.hid (R.out.fs (S := fun _ => False) (Fs.of_below b3) (fun h => h))
  have Z3 := Lib.hid (show w.heap.size + 1 + 1 ≤ w3.heap.size by have := b3.size; have := Z2.out; omega)
  clear b3 x0 x1 x2 x3
  obtain ⟨x0, x1, x2, x3⟩ := X3.out _ (Below.refl _ _)
  obtain ⟨W4, hW4⟩ : ∃ W4, W4 = w3.alloc (.cells #[.int .i64 n, .int .i64 T, .slice none 0 0] 26) := ⟨_, rfl⟩
  have b4 : Below w3.heap.size w3 W4 := by rw [hW4]; exact (Below.refl _ _).alloc (Nat.le_refl _) _
  have X4 := Lib.hid (show Box3 W4 w3.heap.size n T (.slice none 0 0) by rw [hW4]; exact Box3.newM w3 n T _)
  have B4 := Lib.hid (B3.out.trans (b4.mono B3.out.size))
  have Z4 := Lib.hid (show W4.heap.size = w3.heap.size + 1 by rw [hW4]; simp)
  have R4 := Lib.hid (R3.out.fs (S := fun _ => False) (Fs.of_below b4) (fun h => h))
  have HX := Lib.hid (fun W (h : Below w3.heap.size W4 W) => X3.out W (b4.trans h))
  have HW4 := Lib.hid hW4.symm
  have B0 := Lib.hid (Below.refl w3.heap.size W4)
  clear b4 hW4
  go_upto_region 4 with (fail)
  rw [HW4.out]
  clear x0 x1 x2 x3
  go_wp2
  go_loopw [5] (fun qv wr => ∃ (q : Nat) (v : Value), q ≤ T ∧ qv = .int .i64 q ∧ Box3 wr w3.heap.size n T v ∧ OwnM wr (w3.heap.size + 1) v (drawsP n xss q) ∧ Below w3.heap.size W4 wr) (fun qv _ => T - (intOf qv).toNat)
  case atStart => exact ⟨0, _, Nat.zero_le _, rfl, X4.out, OwnM.nil _ _, B0.out⟩
  case round =>
    clear B0
    obtain ⟨q, v, hq, rfl, hbox, hown, hbw⟩ := hrel
    have HBX := Lib.hid hbox
    have HO := Lib.hid hown
    have HBW := Lib.hid hbw
    have HBw := Lib.hid (B4.out.trans (hbw.mono (by have := Z3.out; omega)))
    have hzr : w3.heap.size + 1 ≤ wr.heap.size := by have := hbw.size; have := Z4.out; omega
    have i0 : (0 : Int) ≤ (q : Int) := by omega
    clear hbw
    obtain ⟨x0, x1, x2, x3⟩ := HX.out _ HBW.out
    by_cases hqT : q < T
    · have i1 : (q : Int) < (T : Int) := by omega
      obtain ⟨wo, rfl⟩ : ∃ wo : World, wo = wr := ⟨_, rfl⟩
      have own0 := Lib.hid (OwnI.empty wo (base := wo.heap.size) (Nat.le_refl _))
      have b0 := Lib.hid ((Below.refl wo.heap.size wo).alloc (Nat.le_refl _) (.cells #[] 2))
      have hpl : (drawsP n xss q).length < 16777216 := by rw [drawsP_len]; omega
      clear hown hbox
      go_wp2
      clear x0 x1 x2 x3
      go_loopw [6, 7] (fun z jv wj => ∃ j : Nat, j ≤ n ∧ jv = .int .i64 j ∧ OwnI wj wo.heap.size z (dRow xss q j) ∧ Below wo.heap.size wo wj) (fun _ jv _ => n - (intOf jv).toNat)
      case atStart => exact ⟨0, Nat.zero_le _, rfl, own0.out, b0.out⟩
      case round =>
        clear own0 b0
        obtain ⟨j, hj, rfl, hoz, hbj⟩ := hrel
        have HOZ := Lib.hid hoz
        have HBK := Lib.hid hbj
        have HBw3 := Lib.hid (HBw.out.trans (HBK.out.mono HBw.out.size))
        have HB3 := Lib.hid (HBW.out.trans (HBK.out.mono (by omega)))
        have j0 : (0 : Int) ≤ (j : Int) := by omega
        have hzj : wo.heap.size ≤ wr.heap.size := hbj.size
        obtain ⟨x0, x1, x2, x3⟩ := HX.out _ HB3.out
        have XC3 := Lib.hid (show ChainAt wr w.heap.size 0 n T (.slice a xss.length ca) from ⟨x0, x1, by simpa using x2, by simpa using x3⟩)
        by_cases hjn : j < n
        · have j2 : (j : Int) < (n : Int) := by omega
          obtain ⟨hjl, hje, hjB, hjn2⟩ := HXS.out.row hjn
          obtain ⟨t, ht1', ht2'⟩ := HXS.out.step hjn hqT
          have HST := Lib.hid (show dRow xss q (j + 1) = dRow xss q j ++ [(t : Int)] from by rw [dRow_succ, ht2'])
          have HRES := Lib.hid (show ((toOf xss[j] (q : Int)).map Int.ofNat).getD 0 = (t : Int) from by rw [← hje, ht1']; rfl)
          have LT := Lib.hid (l01To_any _ 0 n T (q : Int) j _ XC3.out (HA.out _ HBw3.out) hjl hjB hjn2)
          have hrl : (dRow xss q j).length < 16777216 := by rw [dRow_len]; omega
          clear hoz hbj ht1' ht2' hje hjB hjn2
          go_wp2_with fail
          refine LT.out.mono ?_
          rintro e ws ⟨he, hws⟩
          rw [HRES.out] at he
          subst he hws
          clear LT
          go_wp2_with (at_builtin; refine append_i64 _ (t : Int) _ _ rfl rfl rfl HOZ.out rfl hrl hzj ?_)
          intro v5 w5' o5 b5 z5
          rw [← HST.out] at o5
          have O5 := Lib.hid o5
          have B5 := Lib.hid (HBK.out.trans (((Below.refl wo.heap.size _).alloc hzj _).trans b5))
          clear o5 b5 z5 x0 x1 x2 x3
          go_wp2
          go_roundw
          case rel => exact ⟨j + 1, by omega, by go_num, O5.out, B5.out⟩
          case measure => simp [intOf]; omega
        · obtain rfl : j = n := by omega
          obtain ⟨va, vn, vc, rfl, _⟩ := HO.out.formJ
          obtain ⟨za, zn, zc, rfl, _⟩ := hoz.formJ
          have BXK := Lib.hid (HBX.out.fs (S := fun _ => False) (Fs.of_below HBK.out) (fun h => h))
          have HO3 := Lib.hid (HO.out.below HBK.out)
          have HU := Lib.hid (HOZ.out.lower (base' := w3.heap.size + 1) (by omega))
          have hbase : w3.heap.size + 1 ≤ wr.heap.size := by omega
          have c2 := BXK.out.c.get 2 _ rfl
          have HSTEP := Lib.hid (drawsP_succ j xss q)
          clear hoz hbj
          go_wp2_with (at_builtin; refine append_mapS wr _ _ rfl rfl rfl HO3.out HU.out rfl rfl hpl hbase ?_)
          intro v7 w7 o7 f7 n7 b7
          rw [← HSTEP.out] at o7
          have X7 := Lib.hid (BXK.out.fs (Fs.of_belowB b7) (by omega))
          have O7 := Lib.hid o7
          have B7 := Lib.hid ((HBW.out.trans (HBK.out.mono (by omega))).trans (b7.mono (by omega)))
          obtain ⟨va7, vn7, vc7, rfl, _⟩ := o7.formJ
          have g2 := X7.out.c.get 2 _ rfl
          have f2 := X7.out.f 2
          have gl := X7.out.c.1
          clear o7 f7 n7 b7 c2 x0 x1 x2 x3
          go_wp2
          go_roundw
          case rel => exact ⟨q + 1, _, by omega, by go_num, X7.out.set _, O7.out.set (by simp) _, B7.out.setCell (by simp) _⟩
          case measure => simp [intOf]; omega
    · obtain rfl : q = T := by omega
      have rb := R4.out.fs (S := fun k => w3.heap.size ≤ k) ⟨HBW.out.os, HBW.out.tape, HBW.out.output, HBW.out.size, fun k _ hk => HBW.out.block k (by omega)⟩ (by have := Z3.out; omega)
      obtain ⟨va, vn, vc, rfl, _⟩ := HO.out.formJ
      have k0 := HBX.out.c.get 0 _ rfl
      have k1 := HBX.out.c.get 1 _ rfl
      have k2 := HBX.out.c.get 2 _ rfl
      have kl := HBX.out.c.1
      have q0 := rb.c.get 0 _ rfl
      have q1 := rb.c.get 1 _ rfl
      have q2 := rb.c.get 2 _ rfl
      have f0 := rb.f 0
      have f1 := rb.f 1
      have f2 := rb.f 2
      have ql := rb.c.1
      have hzz := Z3.out
      clear rb hbox hown
      go_wp2
      refine bodyPost_ret (v := .tuple #[.agg #[.int .i64 n, .int .i64 q, .slice va vn vc], .int .i64 0]) (by simp [results, Try.results32, go_sem, q0, q1, q2, ql]) rfl ⟨_, rfl, ?_, ?_⟩
      · exact OwnM.lower (OwnM.set (OwnM.set (OwnM.set HO.out (by simp; omega) _) (by simp; omega) _) (by simp; omega) _) (by omega)
      · exact ((HBw.out.setCell (by simp) _).setCell (by simp) _).setCell (by simp) _
end Go.Proofs.Ytceobhmbnkheiaa
