/-
  Maps and chains compared: equal ones. With it: Orders owned and written in place; maps that rise, drawn orders: tools. Maps made to rise.
-/
import Derived.Test.YtceobhmbnkheiaaZRowFnMaps23
import Derived.Test.YtceobhmbnkheiaaZRowFnMaps1
import Derived.Test.YtceobhmbnkheiaaZRowFnMaps2
import Derived.Test.YtceobhmbnkheiaaZRowFnMaps15
import Derived.Test.YtceobhmbnkheiaaZRowFnMaps21
import Derived.Test.YtceobhmbnkheiaaZRowFnMaps5
set_option linter.unusedVariables false
set_option linter.unusedSimpArgs false
namespace Go.Proofs.Ytceobhmbnkheiaa
open Go.RowKit Go.Sort
section
variable {P : Program} {ops : Array Oper} {C : World → Prop} {ex : List Nat} {Q : Exit → Act → World → Prop}
/-- the one that can come up now, its guard being met -/
theorem wpX_oneG {i fuel : Nat} {oi : Oper} {listed : Array Bool} {a : Act} {w : World} (hi : ops[i]? = some oi) (hr : Region.ready .any ops listed = [i]) (hw : Region.wanted oi (yielded ops a.tmps) = true)
    (h : ∀ K : Act → World → Prop, (∀ a' w', C w' → WX P ops Q C ex fuel (listed.setIfInBounds i true) a' w' → K a' w') → Oper.wp P oi a w K Q) : WX P ops Q C ex (fuel + 1) listed a w := fun hc => by
  refine ⟨fun h0 => (by rw [hr] at h0; cases h0), fun j hj => ?_⟩
  have hri : i ∈ Region.ready .any ops listed := by rw [hr]; simp
  rw [hr] at hj
  have hji : j = i := by simpa using hj
  subst hji
  unfold wpOp
  simp only [hi, hw, if_true]
  exact .inl (h _ (fun a' w' hC hK => ⟨fun _ _ => hC, hK (hc.set hri)⟩))
end
theorem Fs.setHigh {S : Nat → Prop} {w w' : World} (h : Fs S w w') {a : Addr} (ha : w.heap.size ≤ a.block) (u : Value) : Fs S w (w'.setCell a u) :=
  ⟨h.os, h.tape, h.output, by have := h.size; simpa using this, fun k hk hx => by rw [Below.heap_setCell _ _ _ _ (by omega)]; exact h.block k hk hx⟩
namespace FRow
variable {α : Type} {G : FRow α}
theorem OwnD.fs {S : Nat → Prop} {w w' : World} {base : Nat} {v : Value} {ms : List (List α)} (h : G.OwnD w base v ms) (hf : Fs S w w') (hS : ∀ k, S k → k < base) : G.OwnD w' base v ms := by
  obtain ⟨us, h1, h2, h3⟩ := h
  exact ⟨us, flat_fs2 h1 hf hS, h2.imp (fun v xs h => flat_fs2 h hf hS), h3⟩
end FRow
/-- an order that is owned: where it lies, and what a store does -/
structure OwB (w : World) (base n : Nat) (b : List (List Bool)) (g c : Nat) (rb rc : Nat → Nat) : Prop where
  lt : g < w.heap.size
  lo : base ≤ g
  row : ∀ s, s < n → w.cell? ⟨g, s, none⟩ = some (.slice (some ⟨rb s, 0, none⟩) n (rc s))
  bit : ∀ s t, s < n → t < n → w.cell? ⟨rb s, t, none⟩ = some (.bool (leB b s t))
  free : ∀ s t, s < n → w.frozen? ⟨rb s, t, none⟩ = false
  high : ∀ s, s < n → base ≤ rb s ∧ rb s < w.heap.size
  set : ∀ s t x, s < n → t < n → GB.OwnD (w.setCell ⟨rb s, t, none⟩ (.bool x)) base (.slice (some ⟨g, 0, none⟩) n c) (setB b s t x)
theorem ownsB_cell {w : World} {base g n c : Nat} {xs : List CellV} (h : GB.R.Own w base (.slice (some ⟨g, 0, none⟩) n c) xs) {i : Nat} (hi : i < xs.length) : w.cell? ⟨g, i, none⟩ = some (xs[i]).1 := by
  have := h.cell (i := i) (j := 0) hi (by decide)
  have e : i * GB.R.size + 0 = i := by show i * 1 + 0 = i; omega
  rw [e] at this
  exact this
theorem OwB_of {w : World} {base n : Nat} {v : Value} {b : List (List Bool)} (h : GB.OwnD w base v b) (hn : 1 ≤ n) (hl : b.length = n) (hr : ∀ r ∈ b, r.length = n) : ∃ g c rb rc, v = .slice (some ⟨g, 0, none⟩) n c ∧ OwB w base n b g c rb rc := by
  obtain ⟨us, h1, h2, h3⟩ := h
  have hul : us.length = n := by rw [h2.1, hl]
  rcases h1.forms with ⟨_, h0⟩ | ⟨g, c, hve, hg1, hg2, _, _⟩
  · rw [h0] at hul; simp at hul; omega
  rw [hul] at hve
  subst hve
  have hrow : ∀ s : Nat, ∃ p : Nat × Nat, s < n → ∃ (hs : s < us.length) (hb : s < b.length), (us[s]).1 = .slice (some ⟨p.1, 0, none⟩) n p.2 ∧ FB.Own w base (.slice (some ⟨p.1, 0, none⟩) n p.2) b[s] := by
    intro s
    by_cases hs : s < n
    · have hsu : s < us.length := by omega
      have hsb : s < b.length := by omega
      have ho := h2.2 s us[s] b[s] (List.getElem?_eq_getElem hsu) (List.getElem?_eq_getElem hsb)
      have hlen := hr _ (List.getElem_mem hsb)
      rcases ho.forms with ⟨_, h0⟩ | ⟨g', c', e, _⟩
      · rw [h0] at hlen; simp at hlen; omega
      · rw [hlen] at e
        exact ⟨(g', c'), fun _ => ⟨hsu, hsb, e, by rw [← e]; exact ho⟩⟩
    · exact ⟨(0, 0), fun h => absurd h hs⟩
  have key := fun s (hs : s < n) => Classical.choose_spec (hrow s) hs
  have hbit : ∀ s t, s < n → t < n → leB b s t = ((b.getD s []).getD t false) := fun s t _ _ => rfl
  have gD : ∀ s, s < n → ∀ hb : s < b.length, b.getD s [] = b[s] := fun s hs hb => by rw [List.getD_eq_getElem?_getD, List.getElem?_eq_getElem hb]; rfl
  refine ⟨g, c, fun s => (Classical.choose (hrow s)).1, fun s => (Classical.choose (hrow s)).2, rfl, hg2, hg1, ?_, ?_, ?_, ?_, ?_⟩
  · intro s hs
    obtain ⟨hsu, _, e, _⟩ := key s hs
    rw [ownsB_cell h1 hsu, e]
  · intro s t hs ht
    obtain ⟨_, hsb, _, ho⟩ := key s hs
    have hlen := hr _ (List.getElem_mem hsb)
    have htl : t < (b[s]).length := by omega
    rw [FB_at ho htl]
    unfold leB
    rw [gD s hs hsb, List.getD_eq_getElem?_getD, List.getElem?_eq_getElem htl]; rfl
  · intro s t hs
    obtain ⟨_, _, _, ho⟩ := key s hs
    exact ho.free t
  · intro s hs
    obtain ⟨_, _, _, ho⟩ := key s hs
    exact ho.lt _ rfl
  · intro s t x hs ht
    obtain ⟨hsu, hsb, e, ho⟩ := key s hs
    generalize (Classical.choose (hrow s)).1 = rs at e ho ⊢
    generalize (Classical.choose (hrow s)).2 = cs at e ho
    have hset := FB_set ho t x
    have hf : Fs (fun k => k = rs) w (w.setCell ⟨rs, t, none⟩ (.bool x)) := Fs.set (S := fun k => k = rs) (Fs.refl _ _) (a := ⟨rs, t, none⟩) rfl _
    have hgr : g ≠ rs := by
      intro e2
      subst e2
      exact flat_apart (F := GB.R) (G := FB) (by decide) h1 ho rfl rfl
    refine ⟨us, ?_, ⟨by unfold setB; rw [List.length_set]; exact h2.1, fun i u0 m hi hm => ?_⟩, h3⟩
    · refine ⟨h1.1, ?_⟩
      rcases h1.2 with k | ⟨g2, c2, cur, k1, k2, k3, k4⟩
      · exact .inl k
      · simp only [Value.slice.injEq, Option.some.injEq, Addr.mk.injEq] at k1
        obtain ⟨⟨rfl, _, _⟩, rfl, rfl⟩ := k1
        refine .inr ⟨g, c, cur, rfl, k2, ?_, k4⟩
        rw [hf.block g hg2 hgr]; exact k3
    · unfold setB at hm
      by_cases hi2 : i = s
      · subst hi2
        rw [List.getElem?_set] at hm
        simp only [if_true, hsb] at hm
        have e3 : u0 = us[i] := by rw [List.getElem?_eq_getElem hsu] at hi; exact (Option.some.inj hi).symm
        rw [e3, e]
        rw [gD i hs hsb] at hm
        rw [← Option.some.inj hm]
        exact hset
      · rw [List.getElem?_set_ne (fun h => hi2 h.symm)] at hm
        have ho2 := h2.2 i u0 m hi hm
        refine ⟨ho2.1, ?_⟩
        rcases ho2.2 with k | ⟨g2, c2, cur, k1, k2, k3, k4⟩
        · exact .inl k
        · refine .inr ⟨g2, c2, cur, k1, k2, ?_, k4⟩
          rw [hf.block g2 (Array.getElem?_eq_some_iff.1 k3).1 (fun e4 => ?_)]
          · exact k3
          · have := h3 i s u0 us[s] rs hi (List.getElem?_eq_getElem hsu) (by rw [k1, e4]; rfl) (by rw [e]; rfl)
            exact hi2 this

theorem l00Max_e (a b z : Int) (h : z = max a b) (w : World) : Calls Try.prog 36 #[.int .i64 a, .int .i64 b] w fun e w' => e = .returned (.int .i64 z) ∧ w = w' := by
  by_cases hab : a > b
  · have e : max a b = a := by omega
    rw [e] at h
    subst h
    go_enter Try.func36, Try.ntmps36
    go_wp2
    go_ret
    exact ⟨rfl, rfl⟩
  · have e : max a b = b := by omega
    rw [e] at h
    subst h
    go_enter Try.func36, Try.ntmps36
    go_wp2
    go_ret
    exact ⟨rfl, rfl⟩
end Go.Proofs.Ytceobhmbnkheiaa
namespace Go.Proofs.Ytceobhmbnkheiaa
open Go.RowKit Go.Sort
theorem SlM.atJ2 {w : World} {ad : Option Addr} {n c : Nat} {ms : List (Int × List Int)} (h : SlM w (.slice ad n c) ms) {i : Nat} (hi : i < ms.length) :
    ∃ (b off : Nat) (ra : Option Addr) (rc : Nat) (wt : Int) (tl : List Int), ad = some ⟨b, off, none⟩ ∧ b < w.heap.size ∧ wt = ms[i].1 ∧ tl = ms[i].2 ∧ w.cell? ⟨b, off + i * 2, none⟩ = some (.int .i64 wt) ∧ w.cell? ⟨b, off + i * 2 + 1, none⟩ = some (.slice ra tl.length rc) ∧ SlI w (.slice ra tl.length rc) tl := by
  obtain ⟨b, off, ra, rc, h1, h2, h3, h4, h5⟩ := h.at_ hi
  exact ⟨b, off, ra, rc, _, _, h1, h2, rfl, rfl, h3, h4, h5⟩
theorem riseL_get : ∀ (l : List Int) (m : Int) (j : Nat) (h : j + 1 < l.length), (riseL l m)[j + 1]'(by rw [riseL_len]; exact h) = max l[j + 1] ((riseL l m)[j]'(by rw [riseL_len]; omega))
  | [], _, _, h => by simp at h
  | [_], _, _, h => by simp at h
  | y :: z :: r, m, 0, _ => rfl
  | y :: z :: r, m, j + 1, h => by
    have := riseL_get (z :: r) (max y m) j (by simpa using h)
    simpa [riseL] using this
theorem riseR_get {l : List Int} {j : Nat} (h : j + 1 < l.length) : (riseR l)[j + 1]'(by rw [riseR_len]; exact h) = max l[j + 1] ((riseR l)[j]'(by rw [riseR_len]; omega)) := by
  match l, j, h with
  | y :: z :: r, 0, _ => rfl
  | y :: z :: r, j + 1, h =>
    have := riseL_get (z :: r) y j (by simpa using h)
    simpa [riseR] using this
/-- the first x are risen -/
def riseX (l : List Int) (x : Nat) : List Int := (riseR l).take x ++ l.drop x
theorem riseX_len {l : List Int} {x : Nat} (h : x ≤ l.length) : (riseX l x).length = l.length := by
  unfold riseX; rw [List.length_append, List.length_take, List.length_drop, riseR_len]; omega
theorem riseX_one {l : List Int} (h : 1 ≤ l.length) : riseX l 1 = l := by
  match l, h with
  | y :: r, _ => rfl
theorem riseX_all {l : List Int} : riseX l l.length = riseR l := by
  unfold riseX
  rw [List.drop_length, List.append_nil, ← riseR_len l, List.take_length]
theorem riseX_at {l : List Int} {x : Nat} (h : x < l.length) : (riseX l x)[x]? = some l[x] := by
  unfold riseX
  rw [List.getElem?_append_right (by rw [List.length_take]; omega), List.length_take, riseR_len, Nat.min_eq_left (by omega), Nat.sub_self, List.getElem?_drop, Nat.add_zero, List.getElem?_eq_getElem h]
theorem riseX_prev {l : List Int} {x : Nat} (h1 : 1 ≤ x) (h : x < l.length) : (riseX l x)[x - 1]? = some ((riseR l)[x - 1]'(by rw [riseR_len]; omega)) := by
  unfold riseX
  rw [List.getElem?_append_left (by rw [List.length_take, riseR_len]; omega), List.getElem?_take_of_lt (by omega), List.getElem?_eq_getElem]
theorem riseX_step {l : List Int} {x : Nat} (h1 : 1 ≤ x) (h : x < l.length) : (riseX l x).set x (max l[x] ((riseR l)[x - 1]'(by rw [riseR_len]; omega))) = riseX l (x + 1) := by
  have hl := riseR_len l
  have e : (riseR l)[x]'(by omega) = max l[x] ((riseR l)[x - 1]'(by omega)) := by
    obtain ⟨y, rfl⟩ : ∃ y, x = y + 1 := ⟨x - 1, by omega⟩
    exact riseR_get h
  have et : (riseR l).take (x + 1) = (riseR l).take x ++ [(riseR l)[x]'(by omega)] := List.take_succ_eq_append_getElem (by omega)
  rw [← e]
  unfold riseX
  rw [et]
  generalize (riseR l)[x]'(by omega) = v
  have hm : min x (riseR l).length = x := by omega
  rw [List.set_append, if_neg (by rw [List.length_take]; omega), List.length_take, hm, Nat.sub_self, List.drop_eq_getElem_cons h, List.set_cons_zero, List.append_assoc]
  rfl
def riseP (ms : List (Int × List Int)) (i : Nat) : List (Int × List Int) := riseM (ms.take i)
theorem riseP_len {ms : List (Int × List Int)} {i : Nat} (h : i ≤ ms.length) : (riseP ms i).length = i := by unfold riseP riseM; rw [List.length_map, List.length_take]; omega
theorem riseP_succ {ms : List (Int × List Int)} {i : Nat} (h : i < ms.length) : riseP ms (i + 1) = riseP ms i ++ [(ms[i].1, riseR ms[i].2)] := by
  unfold riseP riseM
  rw [List.take_succ_eq_append_getElem h, List.map_append]; rfl
theorem riseP_all (ms : List (Int × List Int)) : riseP ms ms.length = riseM ms := by unfold riseP; rw [List.take_length]

set_option maxRecDepth 100000 in
set_option maxHeartbeats 8000000 in
theorem P6Rising_any {v : Value} {ms : List (Int × List Int)} {t : Int} (n : Nat) (w : World) (ha : SlM w v ms) (hv : mapsOk n t ms) :
    Calls Try.prog 6 #[.agg #[.int .i64 n, .int .i64 t, v]] w fun e w' => ∃ r, e = .returned (.agg #[.int .i64 n, .int .i64 t, r]) ∧ OwnM w' w.heap.size r (riseM ms) ∧ Below w.heap.size w w' := by
  have HA := Lib.hid (fun W (h : Below w.heap.size w W) => ha.below h)
  obtain ⟨a, ca, rfl, _, _⟩ := ha.form
  obtain ⟨⟨hn1, hn6⟩, _, ⟨hl1, hl60⟩, hrows, _⟩ := hv
  have HROW := Lib.hid (show ∀ (i : Nat) (hi : i < ms.length), ms[i].2.length = n from fun i hi => by
    have := (hrows _ (List.getElem_mem hi)).2.1; omega)
  have bA : Below w.heap.size w (((w.alloc (.cells #[.int .i64 n, .int .i64 t, .slice a ms.length ca] 26)).alloc (.cells #[.int .i64 0, .int .i64 0, .slice none 0 0] 26)).alloc (.cells #[.int .i64 n, .int .i64 t, .slice none 0 0] 26)) := (((Below.refl _ _).alloc (Nat.le_refl _) _).alloc (by simp) _).alloc (by simp; omega) _
  have R0 := Box3.newM w n t (.slice a ms.length ca)
  have R1 := Box3.newM (w.alloc (.cells #[.int .i64 n, .int .i64 t, .slice a ms.length ca] 26)) 0 0 (.slice none 0 0)
  have R2 := Box3.newM ((w.alloc (.cells #[.int .i64 n, .int .i64 t, .slice a ms.length ca] 26)).alloc (.cells #[.int .i64 0, .int .i64 0, .slice none 0 0] 26)) n t (.slice none 0 0)
  have z1 : (w.alloc (.cells #[.int .i64 n, .int .i64 t, .slice a ms.length ca] 26)).heap.size = w.heap.size + 1 := by simp
  have z2 : ((w.alloc (.cells #[.int .i64 n, .int .i64 t, .slice a ms.length ca] 26)).alloc (.cells #[.int .i64 0, .int .i64 0, .slice none 0 0] 26)).heap.size = w.heap.size + 1 + 1 := by simp
  rw [z1] at R1
  rw [z2] at R2
  have R0 := R0.fs (S := fun _ => False) ((Fs.of_below (S := fun _ => False) ((Below.refl _ _).alloc (Nat.le_refl _) (.cells #[.int .i64 0, .int .i64 0, .slice none 0 0] 26))).trans (Fs.of_below ((Below.refl _ _).alloc (Nat.le_refl _) (.cells #[.int .i64 n, .int .i64 t, .slice none 0 0] 26)))) (fun h => h)
  have R1 := R1.fs (S := fun _ => False) (Fs.of_below ((Below.refl _ _).alloc (Nat.le_refl _) (.cells #[.int .i64 n, .int .i64 t, .slice none 0 0] 26))) (fun h => h)
  obtain ⟨W3, hW3⟩ : ∃ W3, W3 = (((w.alloc (.cells #[.int .i64 n, .int .i64 t, .slice a ms.length ca] 26)).alloc (.cells #[.int .i64 0, .int .i64 0, .slice none 0 0] 26)).alloc (.cells #[.int .i64 n, .int .i64 t, .slice none 0 0] 26)) := ⟨_, rfl⟩
  rw [← hW3] at bA R0 R1 R2
  have z3 : W3.heap.size = w.heap.size + 1 + 1 + 1 := by rw [hW3]; simp
  have HW3 := Lib.hid hW3.symm
  have BA := Lib.hid bA
  have RA := Lib.hid R0
  have RB := Lib.hid R1
  have RC := Lib.hid R2
  have B0 := Lib.hid (Below.refl (w.heap.size + 2) W3)
  clear ha hrows bA R0 R1 R2 z1 z2 hW3
  go_enter Try.func6, Try.ntmps6
  go_upto_region 2 with (fail)
  rw [HW3.out]
  have RIL := Lib.hid (fun i (h : i ≤ ms.length) => riseP_len h)
  obtain ⟨_, _⟩ : True ∧ True := ⟨trivial, trivial⟩
  have p0 := RC.out.c.get 0 _ rfl
  clear p0
  go_wp2
  go_loopw [4] (fun iv wr => ∃ (i : Nat) (va : Option Addr) (vc : Nat), i ≤ ms.length ∧ iv = .int .i64 i ∧ Box3 wr (w.heap.size + 1 + 1) n t (.slice va i vc) ∧ OwnM wr (w.heap.size + 1 + 1 + 1) (.slice va i vc) (riseP ms i) ∧ Below (w.heap.size + 2) W3 wr ∧ W3.heap.size ≤ wr.heap.size) (fun iv _ => ms.length - (intOf iv).toNat)
  case atStart => exact ⟨0, none, 0, Nat.zero_le _, rfl, RC.out, OwnM.nil _ _, B0.out, Nat.le_refl _⟩
  case round =>
    clear B0
    obtain ⟨i, va, vc, hi, rfl, hbox, hown, hbw, hzr⟩ := hrel
    have HBX := Lib.hid hbox
    have HO := Lib.hid hown
    have HBW := Lib.hid hbw
    have HBw := Lib.hid (BA.out.trans (hbw.mono (Nat.le_add_right _ 2)))
    have ra := RA.out.fs (S := fun k => w.heap.size + 2 ≤ k) ⟨hbw.os, hbw.tape, hbw.output, hbw.size, fun k _ hk => hbw.block k (by omega)⟩ (by omega)
    have RAW := Lib.hid ra
    clear hown hbw
    by_cases him : i < ms.length
    · have i1 : (i : Int) < (ms.length : Int) := by omega
      have i0 : (0 : Int) ≤ (i : Int) := by omega
      obtain ⟨mb, mo, rra, rca, wt, tl, hae, hmb, hwt, htl, gm1, gm2, sm⟩ := (HA.out wr HBw.out).atJ2 him
      subst hae
      have hrl := HROW.out i him
      rw [← htl] at hrl
      rw [hrl] at gm2 sm
      have HRL := Lib.hid hrl
      have HMS := Lib.hid (show riseP ms (i + 1) = riseP ms i ++ [(wt, riseR tl)] from by rw [hwt, htl]; exact riseP_succ him)
      have HM := Lib.hid (fun V (h : Below wr.heap.size wr V) => show V.cell? ⟨mb, mo + i * 2, none⟩ = some (.int .i64 wt) from by rw [h.cell (p := ⟨mb, mo + i * 2, none⟩) hmb]; exact gm1)
      have q0 := ra.c.get 0 _ rfl
      have q2 := ra.c.get 2 _ rfl
      have KO := Lib.hid (l00Own_any wr sm (by omega))
      obtain ⟨wo, hwo⟩ : ∃ wo : World, wo = wr := ⟨_, rfl⟩
      subst hwo
      clear hwt htl hrl sm ra hbox
      go_wp2_with fail
      refine KO.out.mono ?_
      rintro e w5 ⟨yv, rfl, oy, b5⟩
      rcases oy.forms with ⟨_, hnil⟩ | ⟨g5, c5, rfl, hg1, hg2, _, _⟩
      · have := HRL.out; rw [hnil] at this; simp at this; omega
      · rw [HRL.out] at oy ⊢
        have O5 := Lib.hid (show OwnI w5 wo.heap.size (.slice (some ⟨g5, 0, none⟩) n c5) (riseX tl 1) from by rw [riseX_one (by have := HRL.out; omega)]; exact oy)
        have B5 := Lib.hid b5
        clear oy b5 KO q0 q2 gm1 gm2
        go_wp2
        go_loopw [6] (fun xv wi => ∃ x : Nat, 1 ≤ x ∧ x ≤ n ∧ xv = .int .i64 x ∧ OwnI wi wo.heap.size (.slice (some ⟨g5, 0, none⟩) n c5) (riseX tl x) ∧ Below wo.heap.size wo wi) (fun xv _ => n - (intOf xv).toNat)
        case atStart => exact ⟨1, Nat.le_refl _, by omega, rfl, O5.out, B5.out⟩
        case round =>
          clear O5 B5
          obtain ⟨x, hx1, hx, rfl, hrow, hbi⟩ := hrel
          have HBI := Lib.hid hbi
          have HROWX := Lib.hid hrow
          by_cases hxn : x < n
          · have j1 : (x : Int) < (n : Int) := by omega
            have j0 : (0 : Int) ≤ (x : Int) := by omega
            have hxl : x < tl.length := by rw [HRL.out]; exact hxn
            have e0 := riseX_at hxl
            have e1 := riseX_prev hx1 hxl
            have e2 := riseX_step hx1 hxl
            have hlx : (riseX tl x).length = n := by rw [riseX_len (by omega)]; exact HRL.out
            have c1 := OwnI.cell hrow (i := x) (by rw [hlx]; exact hxn)
            have c2 := OwnI.cell hrow (i := x - 1) (by rw [hlx]; omega)
            have fx := hrow.free x
            rw [show (riseX tl x)[x]'(by rw [hlx]; exact hxn) = tl[x] from by rw [List.getElem?_eq_getElem (by rw [hlx]; exact hxn)] at e0; exact Option.some.inj e0] at c1
            rw [show (riseX tl x)[x - 1]'(by rw [hlx]; omega) = (riseR tl)[x - 1]'(by rw [riseR_len]; omega) from by rw [List.getElem?_eq_getElem (by rw [hlx]; omega)] at e1; exact Option.some.inj e1] at c2
            have OS0 := hrow.set x (max tl[x] ((riseR tl)[x - 1]'(by rw [riseR_len]; omega)))
            rw [e2] at OS0
            generalize tl[x] = y1 at c1 OS0
            generalize (riseR tl)[x - 1]'(by rw [riseR_len]; omega) = y2 at c2 OS0
            obtain ⟨z, hz⟩ : ∃ z, z = max y1 y2 := ⟨_, rfl⟩
            rw [← hz] at OS0
            have HZ := Lib.hid hz
            have OS := Lib.hid OS0
            have BS := Lib.hid ((hbi.drew).setCell (p := ⟨g5, x, none⟩) hg1 (.int .i64 z))
            have r1 : IntKind.i64.wrap ((x - 1 : Nat) : Int) = ((x - 1 : Nat) : Int) := IntWalk.i64_in _ (by omega)
            have r2 : (x : Int) - 1 = ((x - 1 : Nat) : Int) := by omega
            have j2 : ((x - 1 : Nat) : Int) < (n : Int) := by omega
            have j3 : (0 : Int) ≤ ((x - 1 : Nat) : Int) := by omega
            have hlg : g5 < wr.heap.size := cell_lt c1
            clear e0 e1 e2 hrow hbi OS0 hz hlx hxl
            go_wp2_with fail
            refine wpX_start (fun W => W.cell? ⟨g5, x, none⟩ = some (.int .i64 y1) ∧ W.cell? ⟨g5, x - 1, none⟩ = some (.int .i64 y2)) [13] (by kernel_rfl) ?_
            have bd : Below wr.heap.size wr wr.drew := (Below.refl _ _).drew
            have hC : wr.drew.cell? ⟨g5, x, none⟩ = some (.int .i64 y1) ∧ wr.drew.cell? ⟨g5, x - 1, none⟩ = some (.int .i64 y2) := ⟨c1, c2⟩
            refine wpX_free (i := 0) (v := ?_) rfl (by kernel_rfl) (fun _ _ _ h => h) rfl (fun w' => ?_) ?_
            rotate_left
            · go_simp; try with_reducible rfl
            try simp only [Act.put, List.getElem_toArray, List.getElem_cons_zero, List.getElem_cons_succ, List.setIfInBounds_toArray, List.set_cons_zero, List.set_cons_succ]
            refine wpX_free (i := 1) (v := ?_) rfl (by kernel_rfl) (fun _ _ _ h => h) rfl (fun w' => ?_) ?_
            rotate_left
            · go_simp; try with_reducible rfl
            try simp only [Act.put, List.getElem_toArray, List.getElem_cons_zero, List.getElem_cons_succ, List.setIfInBounds_toArray, List.set_cons_zero, List.set_cons_succ]
            refine wpX_free (i := 2) (v := ?_) rfl (by kernel_rfl) (fun _ _ _ h => h) rfl (fun w' => ?_) ?_
            rotate_left
            · go_simp; try with_reducible rfl
            try simp only [Act.put, List.getElem_toArray, List.getElem_cons_zero, List.getElem_cons_succ, List.setIfInBounds_toArray, List.set_cons_zero, List.set_cons_succ]
            refine wpX_free (i := 3) (v := ?_) rfl (by kernel_rfl) (fun _ _ _ h => h) rfl (fun w' => ?_) ?_
            rotate_left
            · go_simp; try with_reducible rfl
            try simp only [Act.put, List.getElem_toArray, List.getElem_cons_zero, List.getElem_cons_succ, List.setIfInBounds_toArray, List.set_cons_zero, List.set_cons_succ]
            refine wpX_free (i := 4) (v := ?_) rfl (by kernel_rfl) (fun _ _ _ h => h) rfl (fun w' => ?_) ?_
            rotate_left
            · go_simp; try with_reducible rfl
            try simp only [Act.put, List.getElem_toArray, List.getElem_cons_zero, List.getElem_cons_succ, List.setIfInBounds_toArray, List.set_cons_zero, List.set_cons_succ]
            refine wpX_load (i := 5) (v := ?_) rfl (by kernel_rfl) (fun _ _ _ h => h) hC rfl (fun w' hw' => ?_) ?_
            rotate_left
            · obtain ⟨k1, k2⟩ := hw'; go_simp; try with_reducible rfl
            try simp only [Act.put, List.getElem_toArray, List.getElem_cons_zero, List.getElem_cons_succ, List.setIfInBounds_toArray, List.set_cons_zero, List.set_cons_succ]
            refine wpX_free (i := 6) (v := ?_) rfl (by kernel_rfl) (fun _ _ _ h => h) rfl (fun w' => ?_) ?_
            rotate_left
            · go_simp; try with_reducible rfl
            try simp only [Act.put, List.getElem_toArray, List.getElem_cons_zero, List.getElem_cons_succ, List.setIfInBounds_toArray, List.set_cons_zero, List.set_cons_succ]
            refine wpX_free (i := 7) (v := ?_) rfl (by kernel_rfl) (fun _ _ _ h => h) rfl (fun w' => ?_) ?_
            rotate_left
            · go_simp; try with_reducible rfl
            try simp only [Act.put, List.getElem_toArray, List.getElem_cons_zero, List.getElem_cons_succ, List.setIfInBounds_toArray, List.set_cons_zero, List.set_cons_succ]
            refine wpX_free (i := 8) (v := ?_) rfl (by kernel_rfl) (fun _ _ _ h => h) rfl (fun w' => ?_) ?_
            rotate_left
            · go_simp; try with_reducible rfl
            try simp only [Act.put, List.getElem_toArray, List.getElem_cons_zero, List.getElem_cons_succ, List.setIfInBounds_toArray, List.set_cons_zero, List.set_cons_succ]
            refine wpX_free (i := 9) (v := ?_) rfl (by kernel_rfl) (fun _ _ _ h => h) rfl (fun w' => ?_) ?_
            rotate_left
            · go_simp; try with_reducible rfl
            try simp only [Act.put, List.getElem_toArray, List.getElem_cons_zero, List.getElem_cons_succ, List.setIfInBounds_toArray, List.set_cons_zero, List.set_cons_succ]
            refine wpX_load (i := 10) (v := ?_) rfl (by kernel_rfl) (fun _ _ _ h => h) hC rfl (fun w' hw' => ?_) ?_
            rotate_left
            · obtain ⟨k1, k2⟩ := hw'; go_simp; try with_reducible rfl
            try simp only [Act.put, List.getElem_toArray, List.getElem_cons_zero, List.getElem_cons_succ, List.setIfInBounds_toArray, List.set_cons_zero, List.set_cons_succ]
            refine wpX_one (i := 11) rfl (by kernel_rfl) rfl ?_
            intro K2 hK2
            go_simp
            go_at_call 36
            refine (l00Max_e y1 y2 z HZ.out _).mono ?_
            rintro e wq ⟨rfl, rfl⟩
            refine hK2 _ _ hC ?_
            clear hK2 K2
            try simp only [Act.put, List.getElem_toArray, List.getElem_cons_zero, List.getElem_cons_succ, List.setIfInBounds_toArray, List.set_cons_zero, List.set_cons_succ]
            refine wpX_free (i := 12) (v := ?_) rfl (by kernel_rfl) (fun _ _ _ h => h) rfl (fun w' => ?_) ?_
            rotate_left
            · go_simp; try with_reducible rfl
            try simp only [Act.put, List.getElem_toArray, List.getElem_cons_zero, List.getElem_cons_succ, List.setIfInBounds_toArray, List.set_cons_zero, List.set_cons_succ]
            refine wpX_rest (t := [13]) (l := [_]) rfl (by kernel_rfl) (by kernel_rfl) ?_
            clear hC
            simp only [List.getElem_toArray, List.getElem_cons_zero, List.getElem_cons_succ]
            clear c2
            have c1 : wr.drew.cell? ⟨g5, x, none⟩ = some (.int .i64 y1) := c1
            have fx : wr.drew.frozen? ⟨g5, x, none⟩ = false := fx
            clear bd
            go_wp2
            go_roundw
            case rel => exact ⟨x + 1, by omega, by omega, by go_num, OS.out.below (Below.refl _ _).drew, BS.out⟩
            case measure => simp [intOf]; omega
          · obtain rfl : x = n := by omega
            have hrow2 : OwnI wr wo.heap.size (.slice (some ⟨g5, 0, none⟩) x c5) (riseR tl) := by
              have h := HROWX.out
              rw [← HRL.out, riseX_all, HRL.out] at h
              exact h
            have hb3 := HBX.out.fs (S := fun _ => False) ((Fs.of_below hbi)) (fun h => h)
            have ra2 := RAW.out.fs (S := fun _ => False) (Fs.of_below hbi) (fun h => h)
            have c1 := hb3.c.get 2 _ rfl
            have c2 := ra2.c.get 2 _ rfl
            have c3 := HM.out wr hbi
            have HB3 := Lib.hid hb3
            have HOI := Lib.hid (HO.out.below hbi)
            have HRW2 := Lib.hid hrow2
            clear hrow2 hrow hbi hb3 ra2
            go_wp2_with fail
            refine wpX_start (fun W => W.cell? ⟨w.heap.size + 1 + 1, 2, none⟩ = some (.slice va i vc) ∧ W.cell? ⟨w.heap.size, 2, none⟩ = some (.slice (some ⟨mb, mo, none⟩) ms.length ca) ∧ W.cell? ⟨mb, mo + i * 2, none⟩ = some (.int .i64 wt)) [11, 12, 13] (by kernel_rfl) ?_
            have bd : Below wr.heap.size wr wr.drew := (Below.refl _ _).drew
            have hC : (fun W : World => W.cell? ⟨w.heap.size + 1 + 1, 2, none⟩ = some (.slice va i vc) ∧ W.cell? ⟨w.heap.size, 2, none⟩ = some (.slice (some ⟨mb, mo, none⟩) ms.length ca) ∧ W.cell? ⟨mb, mo + i * 2, none⟩ = some (.int .i64 wt)) wr.drew := ⟨c1, c2, c3⟩
            have AL := fun o => show (fun W : World => W.cell? ⟨w.heap.size + 1 + 1, 2, none⟩ = some (.slice va i vc) ∧ W.cell? ⟨w.heap.size, 2, none⟩ = some (.slice (some ⟨mb, mo, none⟩) ms.length ca) ∧ W.cell? ⟨mb, mo + i * 2, none⟩ = some (.int .i64 wt)) (wr.drew.alloc o) from by have b := bd.alloc (Nat.le_refl _) o; exact ⟨(b.cell (p := ⟨w.heap.size + 1 + 1, 2, none⟩) (cell_lt c1)).trans c1, (b.cell (p := ⟨w.heap.size, 2, none⟩) (cell_lt c2)).trans c2, (b.cell (p := ⟨mb, mo + i * 2, none⟩) (cell_lt c3)).trans c3⟩
            refine wpX_free (i := 0) (v := ?_) rfl (by kernel_rfl) (fun _ _ _ h => h) rfl (fun w' => ?_) ?_
            rotate_left
            · go_simp; try with_reducible rfl
            try simp only [Act.put, List.getElem_toArray, List.getElem_cons_zero, List.getElem_cons_succ, List.setIfInBounds_toArray, List.set_cons_zero, List.set_cons_succ]
            refine wpX_load (i := 1) (v := ?_) rfl (by kernel_rfl) (fun _ _ _ h => h) hC rfl (fun w' hw' => ?_) ?_
            rotate_left
            · obtain ⟨k1, k2, k3⟩ := hw'; go_simp; try with_reducible rfl
            try simp only [Act.put, List.getElem_toArray, List.getElem_cons_zero, List.getElem_cons_succ, List.setIfInBounds_toArray, List.set_cons_zero, List.set_cons_succ]
            refine wpX_free (i := 2) (v := ?_) rfl (by kernel_rfl) (fun _ _ _ h => h) rfl (fun w' => ?_) ?_
            rotate_left
            · go_simp; try with_reducible rfl
            try simp only [Act.put, List.getElem_toArray, List.getElem_cons_zero, List.getElem_cons_succ, List.setIfInBounds_toArray, List.set_cons_zero, List.set_cons_succ]
            refine wpX_load (i := 3) (v := ?_) rfl (by kernel_rfl) (fun _ _ _ h => h) hC rfl (fun w' hw' => ?_) ?_
            rotate_left
            · obtain ⟨k1, k2, k3⟩ := hw'; go_simp; try with_reducible rfl
            try simp only [Act.put, List.getElem_toArray, List.getElem_cons_zero, List.getElem_cons_succ, List.setIfInBounds_toArray, List.set_cons_zero, List.set_cons_succ]
            refine wpX_free (i := 4) (v := ?_) rfl (by kernel_rfl) (fun _ _ _ h => h) rfl (fun w' => ?_) ?_
            rotate_left
            · go_simp; try with_reducible rfl
            try simp only [Act.put, List.getElem_toArray, List.getElem_cons_zero, List.getElem_cons_succ, List.setIfInBounds_toArray, List.set_cons_zero, List.set_cons_succ]
            refine wpX_free (i := 5) (v := ?_) rfl (by kernel_rfl) (fun _ _ _ h => h) rfl (fun w' => ?_) ?_
            rotate_left
            · go_simp; try with_reducible rfl
            try simp only [Act.put, List.getElem_toArray, List.getElem_cons_zero, List.getElem_cons_succ, List.setIfInBounds_toArray, List.set_cons_zero, List.set_cons_succ]
            refine wpX_free (i := 6) (v := ?_) rfl (by kernel_rfl) (fun _ _ _ h => h) rfl (fun w' => ?_) ?_
            rotate_left
            · go_simp; try with_reducible rfl
            try simp only [Act.put, List.getElem_toArray, List.getElem_cons_zero, List.getElem_cons_succ, List.setIfInBounds_toArray, List.set_cons_zero, List.set_cons_succ]
            refine wpX_load (i := 7) (v := ?_) rfl (by kernel_rfl) (fun _ _ _ h => h) hC rfl (fun w' hw' => ?_) ?_
            rotate_left
            · obtain ⟨k1, k2, k3⟩ := hw'; go_simp; try with_reducible rfl
            try simp only [Act.put, List.getElem_toArray, List.getElem_cons_zero, List.getElem_cons_succ, List.setIfInBounds_toArray, List.set_cons_zero, List.set_cons_succ]
            refine wpX_free (i := 8) (v := ?_) rfl (by kernel_rfl) (fun _ _ _ h => h) rfl (fun w' => ?_) ?_
            rotate_left
            · go_simp; try with_reducible rfl
            try simp only [Act.put, List.getElem_toArray, List.getElem_cons_zero, List.getElem_cons_succ, List.setIfInBounds_toArray, List.set_cons_zero, List.set_cons_succ]
            refine wpX_free (i := 9) (v := ?_) rfl (by kernel_rfl) (fun _ _ _ h => h) rfl (fun w' => ?_) ?_
            rotate_left
            · go_simp; try with_reducible rfl
            try simp only [Act.put, List.getElem_toArray, List.getElem_cons_zero, List.getElem_cons_succ, List.setIfInBounds_toArray, List.set_cons_zero, List.set_cons_succ]
            refine wpX_one (i := 10) rfl (by kernel_rfl) rfl ?_
            intro K2 hK2
            go_simp
            refine hK2 _ _ (AL _) ?_
            clear hK2 K2
            try simp only [Act.put, List.getElem_toArray, List.getElem_cons_zero, List.getElem_cons_succ, List.setIfInBounds_toArray, List.set_cons_zero, List.set_cons_succ]
            refine wpX_rest (t := [11, 12, 13]) (l := [_, _, _]) rfl (by kernel_rfl) (by kernel_rfl) ?_
            clear hC AL
            simp only [List.getElem_toArray, List.getElem_cons_zero, List.getElem_cons_succ]
            change wpList _ _ _ _ _ (wr.drew.alloc (.cells #[.int .i64 wt, .slice (some ⟨g5, 0, none⟩) x c5] 43))
            generalize hwd : wr.drew = wq at bd ⊢
            have hsz : wq.heap.size = wr.heap.size := by rw [← hwd]; rfl
            have bdh := Lib.hid bd
            have ho4 := HOI.out.below bd
            have hr4 := (HRW2.out.below bd).lower (base' := w.heap.size + 1 + 1 + 1) (show w.heap.size + 1 + 1 + 1 ≤ wo.heap.size by omega)
            have hb4 := Lib.hid (HB3.out.fs (S := fun _ => False) (Fs.of_below bd) (fun h => h))
            have hln : (riseP ms i).length < 16777216 := by have := RIL.out i (by omega); omega
            have hzq : w.heap.size + 1 + 1 + 1 ≤ wq.heap.size := by have := bd.size; have := HBI.out.size; omega
            have HZQ := Lib.hid hzq
            clear c1 c2 c3 hwd bd
            go_wp2_with (at_builtin; refine append_map wq _ _ rfl rfl rfl ho4 hr4 hsz rfl hln hzq ?_)
            intro v7 w7 o7 b7 z7
            rw [← HMS.out] at o7
            obtain ⟨va7, vn7, vc7, rfl, hvn⟩ := o7.formJ
            have hvn' : vn7 = i + 1 := by have h := hvn.out; rw [RIL.out (i + 1) (by omega)] at h; exact h
            subst hvn'
            have bal := (Below.refl wq.heap.size wq).alloc (Nat.le_refl _) (.cells #[.int .i64 wt, .slice (some ⟨g5, 0, none⟩) x c5] 43)
            have B7 := (bal.mono HZQ.out).trans b7
            have hbx7 := hb4.out.fs (S := fun k => w.heap.size + 1 + 1 + 1 ≤ k) ⟨B7.os, B7.tape, B7.output, B7.size, fun k _ hk => B7.block k (by omega)⟩ (by omega)
            have O7 := Lib.hid o7
            have HX7 := Lib.hid hbx7
            have BW7 := Lib.hid ((HBW.out.trans ((HBI.out.trans (bdh.out.mono HBI.out.size)).mono (show w.heap.size + 2 ≤ wo.heap.size by omega))).trans (B7.mono (show w.heap.size + 2 ≤ w.heap.size + 1 + 1 + 1 by omega)))
            have q2 := hbx7.c.get 2 _ rfl
            have f2 := hbx7.f 2
            have ql := hbx7.c.1
            have hz7 : W3.heap.size ≤ w7.heap.size := by have := B7.size; omega
            clear o7 b7 bal B7 hbx7 ho4 hr4 hvn z7 hsz
            go_wp2
            go_roundw
            case rel => exact ⟨i + 1, va7, vc7, by omega, by go_num, HX7.out.set _, O7.out.set (by simp) _, BW7.out.setCell (by simp) _, by simp; exact hz7⟩
            case measure => simp [intOf]; omega
    · obtain rfl : i = ms.length := by omega
      have HO2 := Lib.hid (show OwnM wr (w.heap.size + 1 + 1 + 1) (.slice va ms.length vc) (riseM ms) from by rw [← riseP_all]; exact HO.out)
      have rb := RB.out.fs (S := fun k => w.heap.size + 2 ≤ k) ⟨HBW.out.os, HBW.out.tape, HBW.out.output, HBW.out.size, fun k _ hk => HBW.out.block k (by omega)⟩ (by omega)
      have k0 := hbox.c.get 0 _ rfl
      have k1 := hbox.c.get 1 _ rfl
      have k2 := hbox.c.get 2 _ rfl
      have kl := hbox.c.1
      have q0 := rb.c.get 0 _ rfl
      have q1 := rb.c.get 1 _ rfl
      have q2 := rb.c.get 2 _ rfl
      have f0 := rb.f 0
      have f1 := rb.f 1
      have f2 := rb.f 2
      have ql := rb.c.1
      have x2 := ra.c.get 2 _ rfl
      clear rb
      go_wp2
      refine bodyPost_ret (v := .agg #[.int .i64 n, .int .i64 t, .slice va ms.length vc]) (by simp [results, Try.results6, go_sem, q0, q1, q2, ql]) rfl ⟨_, rfl, ?_, ?_⟩
      · exact (((HO2.out.set (by simp) _).set (by simp) _).set (by simp) _).lower (by omega)
      · exact ((HBw.out.setCell (by simp) _).setCell (by simp) _).setCell (by simp) _
end Go.Proofs.Ytceobhmbnkheiaa
namespace Go.Proofs.Ytceobhmbnkheiaa
open Go.RowKit Go.Sort

set_option maxRecDepth 100000 in
set_option maxHeartbeats 8000000 in
theorem SameMaps_eq {u v : Value} {ms : List (Int × List Int)} (n t : Int) (w : World) (ha : SlM w u ms) (hb : SlM w v ms) :
    Calls Try.prog 25 #[.agg #[.int .i64 n, .int .i64 t, u], .agg #[.int .i64 n, .int .i64 t, v]] w fun e w' => e = .returned (.bool true) ∧ Below w.heap.size w w' := by
  have HA := Lib.hid (fun W (h : Below w.heap.size w W) => ha.below h)
  have HB := Lib.hid (fun W (h : Below w.heap.size w W) => hb.below h)
  obtain ⟨a, ca, rfl, hca, hca2⟩ := ha.form
  obtain ⟨b, cb, rfl, _, _⟩ := hb.form
  unfold maxLen at hca2
  obtain ⟨W2, hW2⟩ : ∃ W2, W2 = (w.alloc (.cells #[.int .i64 n, .int .i64 t, .slice a ms.length ca] 26)).alloc (.cells #[.int .i64 n, .int .i64 t, .slice b ms.length cb] 26) := ⟨_, rfl⟩
  have BX := Lib.hid (show Below w.heap.size w W2 by rw [hW2]; exact ((Below.refl _ _).alloc (Nat.le_refl _) _).alloc (by simp) _)
  have X := Lib.hid (show MpAt W2 w.heap.size n t (.slice a ms.length ca) by rw [hW2]; exact (MpAt.new w n t _).below ((Below.refl _ _).alloc (Nat.le_refl _) _))
  have Y := Lib.hid (show MpAt W2 (w.heap.size + 1) n t (.slice b ms.length cb) by
    rw [hW2]
    have h := MpAt.new (w.alloc (.cells #[.int .i64 n, .int .i64 t, .slice a ms.length ca] 26)) n t (.slice b ms.length cb)
    rw [show (w.alloc (.cells #[.int .i64 n, .int .i64 t, .slice a ms.length ca] 26)).heap.size = w.heap.size + 1 by simp] at h
    exact h)
  have HW2 := Lib.hid hW2.symm
  have B0 := Lib.hid (Below.refl W2.heap.size W2)
  have z2 : W2.heap.size = w.heap.size + 1 + 1 := by rw [hW2]; simp
  have q1 : (n != n) = false := by simp
  have q2 : (t != t) = false := by simp
  have q3 : ((ms.length : Int) != (ms.length : Int)) = false := by simp
  clear ha hb hW2
  obtain ⟨x0, x1, x2, x3⟩ := X.out
  obtain ⟨y0, y1, y2, y3⟩ := Y.out
  go_enter Try.func25, Try.ntmps25
  go_upto_region 1 with (fail)
  rw [HW2.out]
  go_wp2
  clear x0 x1 x2 x3 y0 y1 y2 y3
  go_loopw [5] (fun iv wr => ∃ i : Nat, i ≤ ms.length ∧ iv = .int .i64 i ∧ Below W2.heap.size W2 wr) (fun iv _ => ms.length - (intOf iv).toNat)
  case atStart => exact ⟨0, Nat.zero_le _, rfl, B0.out⟩
  case round =>
    clear B0
    obtain ⟨i, hi, rfl, hbw⟩ := hrel
    have HBW := Lib.hid hbw
    have HBw := Lib.hid (BX.out.trans (hbw.mono BX.out.size))
    obtain ⟨x0, x1, x2, x3⟩ := X.out.below hbw
    obtain ⟨y0, y1, y2, y3⟩ := Y.out.below hbw
    by_cases him : i < ms.length
    · have i1 : (i : Int) < (ms.length : Int) := by omega
      have i0 : (0 : Int) ≤ (i : Int) := by omega
      obtain ⟨mb, mo, ra, rca, wt, tl, hae, hmb, hwt, htl, gm1, gm2, sm⟩ := (HA.out _ HBw.out).atJ2 him
      obtain ⟨nb, no, rb, rcb, wt2, tl2, hbe, hnb, hwt2, htl2, gn1, gn2, sn⟩ := (HB.out _ HBw.out).atJ2 him
      rw [← hwt] at hwt2
      rw [← htl] at htl2
      subst hae hbe hwt2 htl2
      have SM := Lib.hid (fun V (h : Below wr.heap.size wr V) => sm.below h)
      have SN := Lib.hid (fun V (h : Below wr.heap.size wr V) => sn.below h)
      have q4 : (wt2 != wt2) = false := by simp
      clear hwt htl sm sn hbw hmb hnb
      go_wp2_with fail
      refine wpX_start (fun W => W.cell? ⟨w.heap.size, 2, none⟩ = some (.slice (some ⟨mb, mo, none⟩) ms.length ca) ∧ W.cell? ⟨w.heap.size + 1, 2, none⟩ = some (.slice (some ⟨nb, no, none⟩) ms.length cb) ∧ W.cell? ⟨mb, mo + i * 2, none⟩ = some (.int .i64 wt2) ∧ W.cell? ⟨mb, mo + i * 2 + 1, none⟩ = some (.slice ra tl2.length rca) ∧ W.cell? ⟨nb, no + i * 2, none⟩ = some (.int .i64 wt2) ∧ W.cell? ⟨nb, no + i * 2 + 1, none⟩ = some (.slice rb tl2.length rcb)) [] (by kernel_rfl) ?_
      have bd : Below wr.heap.size wr wr.drew := (Below.refl _ _).drew
      have CC := Lib.hid (fun V (h : Below wr.heap.size wr V) => show (fun W : World => W.cell? ⟨w.heap.size, 2, none⟩ = some (.slice (some ⟨mb, mo, none⟩) ms.length ca) ∧ W.cell? ⟨w.heap.size + 1, 2, none⟩ = some (.slice (some ⟨nb, no, none⟩) ms.length cb) ∧ W.cell? ⟨mb, mo + i * 2, none⟩ = some (.int .i64 wt2) ∧ W.cell? ⟨mb, mo + i * 2 + 1, none⟩ = some (.slice ra tl2.length rca) ∧ W.cell? ⟨nb, no + i * 2, none⟩ = some (.int .i64 wt2) ∧ W.cell? ⟨nb, no + i * 2 + 1, none⟩ = some (.slice rb tl2.length rcb)) V from ⟨(h.cell (p := ⟨w.heap.size, 2, none⟩) (cell_lt x3)).trans x3, (h.cell (p := ⟨w.heap.size + 1, 2, none⟩) (cell_lt y3)).trans y3, (h.cell (p := ⟨mb, mo + i * 2, none⟩) (cell_lt gm1)).trans gm1, (h.cell (p := ⟨mb, mo + i * 2 + 1, none⟩) (cell_lt gm2)).trans gm2, (h.cell (p := ⟨nb, no + i * 2, none⟩) (cell_lt gn1)).trans gn1, (h.cell (p := ⟨nb, no + i * 2 + 1, none⟩) (cell_lt gn2)).trans gn2⟩)
      have hC := CC.out _ bd
      clear x0 x1 x2 x3 y0 y1 y2 y3 gm1 gm2 gn1 gn2
      refine wpX_free (i := 0) (v := ?_) rfl (by kernel_rfl) (fun _ _ _ h => h) rfl (fun w' => ?_) ?_
      rotate_left
      · go_simp; try with_reducible rfl
      try simp only [Act.put, List.getElem_toArray, List.getElem_cons_zero, List.getElem_cons_succ, List.setIfInBounds_toArray, List.set_cons_zero, List.set_cons_succ]
      refine wpX_load (i := 1) (v := ?_) rfl (by kernel_rfl) (fun _ _ _ h => h) hC rfl (fun w' hw' => ?_) ?_
      rotate_left
      · obtain ⟨k1, k2, k3, k4, k5, k6⟩ := hw'; go_simp; try with_reducible rfl
      try simp only [Act.put, List.getElem_toArray, List.getElem_cons_zero, List.getElem_cons_succ, List.setIfInBounds_toArray, List.set_cons_zero, List.set_cons_succ]
      refine wpX_free (i := 2) (v := ?_) rfl (by kernel_rfl) (fun _ _ _ h => h) rfl (fun w' => ?_) ?_
      rotate_left
      · go_simp; try with_reducible rfl
      try simp only [Act.put, List.getElem_toArray, List.getElem_cons_zero, List.getElem_cons_succ, List.setIfInBounds_toArray, List.set_cons_zero, List.set_cons_succ]
      refine wpX_free (i := 3) (v := ?_) rfl (by kernel_rfl) (fun _ _ _ h => h) rfl (fun w' => ?_) ?_
      rotate_left
      · go_simp; try with_reducible rfl
      try simp only [Act.put, List.getElem_toArray, List.getElem_cons_zero, List.getElem_cons_succ, List.setIfInBounds_toArray, List.set_cons_zero, List.set_cons_succ]
      refine wpX_free (i := 4) (v := ?_) rfl (by kernel_rfl) (fun _ _ _ h => h) rfl (fun w' => ?_) ?_
      rotate_left
      · go_simp; try with_reducible rfl
      try simp only [Act.put, List.getElem_toArray, List.getElem_cons_zero, List.getElem_cons_succ, List.setIfInBounds_toArray, List.set_cons_zero, List.set_cons_succ]
      refine wpX_load (i := 5) (v := ?_) rfl (by kernel_rfl) (fun _ _ _ h => h) hC rfl (fun w' hw' => ?_) ?_
      rotate_left
      · obtain ⟨k1, k2, k3, k4, k5, k6⟩ := hw'; go_simp; try with_reducible rfl
      try simp only [Act.put, List.getElem_toArray, List.getElem_cons_zero, List.getElem_cons_succ, List.setIfInBounds_toArray, List.set_cons_zero, List.set_cons_succ]
      refine wpX_free (i := 6) (v := ?_) rfl (by kernel_rfl) (fun _ _ _ h => h) rfl (fun w' => ?_) ?_
      rotate_left
      · go_simp; try with_reducible rfl
      try simp only [Act.put, List.getElem_toArray, List.getElem_cons_zero, List.getElem_cons_succ, List.setIfInBounds_toArray, List.set_cons_zero, List.set_cons_succ]
      refine wpX_load (i := 7) (v := ?_) rfl (by kernel_rfl) (fun _ _ _ h => h) hC rfl (fun w' hw' => ?_) ?_
      rotate_left
      · obtain ⟨k1, k2, k3, k4, k5, k6⟩ := hw'; go_simp; try with_reducible rfl
      try simp only [Act.put, List.getElem_toArray, List.getElem_cons_zero, List.getElem_cons_succ, List.setIfInBounds_toArray, List.set_cons_zero, List.set_cons_succ]
      refine wpX_free (i := 8) (v := ?_) rfl (by kernel_rfl) (fun _ _ _ h => h) rfl (fun w' => ?_) ?_
      rotate_left
      · go_simp; try with_reducible rfl
      try simp only [Act.put, List.getElem_toArray, List.getElem_cons_zero, List.getElem_cons_succ, List.setIfInBounds_toArray, List.set_cons_zero, List.set_cons_succ]
      refine wpX_free (i := 9) (v := ?_) rfl (by kernel_rfl) (fun _ _ _ h => h) rfl (fun w' => ?_) ?_
      rotate_left
      · go_simp; try with_reducible rfl
      try simp only [Act.put, List.getElem_toArray, List.getElem_cons_zero, List.getElem_cons_succ, List.setIfInBounds_toArray, List.set_cons_zero, List.set_cons_succ]
      refine wpX_free (i := 10) (v := ?_) rfl (by kernel_rfl) (fun _ _ _ h => h) rfl (fun w' => ?_) ?_
      rotate_left
      · go_simp; try with_reducible rfl
      try simp only [Act.put, List.getElem_toArray, List.getElem_cons_zero, List.getElem_cons_succ, List.setIfInBounds_toArray, List.set_cons_zero, List.set_cons_succ]
      refine wpX_load (i := 11) (v := ?_) rfl (by kernel_rfl) (fun _ _ _ h => h) hC rfl (fun w' hw' => ?_) ?_
      rotate_left
      · obtain ⟨k1, k2, k3, k4, k5, k6⟩ := hw'; go_simp; try with_reducible rfl
      try simp only [Act.put, List.getElem_toArray, List.getElem_cons_zero, List.getElem_cons_succ, List.setIfInBounds_toArray, List.set_cons_zero, List.set_cons_succ]
      refine wpX_free (i := 12) (v := ?_) rfl (by kernel_rfl) (fun _ _ _ h => h) rfl (fun w' => ?_) ?_
      rotate_left
      · go_simp; try with_reducible rfl
      try simp only [Act.put, List.getElem_toArray, List.getElem_cons_zero, List.getElem_cons_succ, List.setIfInBounds_toArray, List.set_cons_zero, List.set_cons_succ]
      refine wpX_free (i := 13) (v := ?_) rfl (by kernel_rfl) (fun _ _ _ h => h) rfl (fun w' => ?_) ?_
      rotate_left
      · go_simp; try with_reducible rfl
      try simp only [Act.put, List.getElem_toArray, List.getElem_cons_zero, List.getElem_cons_succ, List.setIfInBounds_toArray, List.set_cons_zero, List.set_cons_succ]
      refine wpX_free (i := 14) (v := ?_) rfl (by kernel_rfl) (fun _ _ _ h => h) rfl (fun w' => ?_) ?_
      rotate_left
      · go_simp; try with_reducible rfl
      try simp only [Act.put, List.getElem_toArray, List.getElem_cons_zero, List.getElem_cons_succ, List.setIfInBounds_toArray, List.set_cons_zero, List.set_cons_succ]
      refine wpX_load (i := 15) (v := ?_) rfl (by kernel_rfl) (fun _ _ _ h => h) hC rfl (fun w' hw' => ?_) ?_
      rotate_left
      · obtain ⟨k1, k2, k3, k4, k5, k6⟩ := hw'; go_simp; try with_reducible rfl
      try simp only [Act.put, List.getElem_toArray, List.getElem_cons_zero, List.getElem_cons_succ, List.setIfInBounds_toArray, List.set_cons_zero, List.set_cons_succ]
      refine wpX_free (i := 16) (v := ?_) rfl (by kernel_rfl) (fun _ _ _ h => h) rfl (fun w' => ?_) ?_
      rotate_left
      · go_simp; try with_reducible rfl
      try simp only [Act.put, List.getElem_toArray, List.getElem_cons_zero, List.getElem_cons_succ, List.setIfInBounds_toArray, List.set_cons_zero, List.set_cons_succ]
      refine wpX_free (i := 17) (v := ?_) rfl (by kernel_rfl) (fun _ _ _ h => h) rfl (fun w' => ?_) ?_
      rotate_left
      · go_simp; try with_reducible rfl
      try simp only [Act.put, List.getElem_toArray, List.getElem_cons_zero, List.getElem_cons_succ, List.setIfInBounds_toArray, List.set_cons_zero, List.set_cons_succ]
      refine wpX_free (i := 18) (v := ?_) rfl (by kernel_rfl) (fun _ _ _ h => h) rfl (fun w' => ?_) ?_
      rotate_left
      · go_simp; try with_reducible rfl
      try simp only [Act.put, List.getElem_toArray, List.getElem_cons_zero, List.getElem_cons_succ, List.setIfInBounds_toArray, List.set_cons_zero, List.set_cons_succ]
      refine wpX_load (i := 19) (v := ?_) rfl (by kernel_rfl) (fun _ _ _ h => h) hC rfl (fun w' hw' => ?_) ?_
      rotate_left
      · obtain ⟨k1, k2, k3, k4, k5, k6⟩ := hw'; go_simp; try with_reducible rfl
      try simp only [Act.put, List.getElem_toArray, List.getElem_cons_zero, List.getElem_cons_succ, List.setIfInBounds_toArray, List.set_cons_zero, List.set_cons_succ]
      refine wpX_free (i := 20) (v := ?_) rfl (by kernel_rfl) (fun _ _ _ h => h) rfl (fun w' => ?_) ?_
      rotate_left
      · go_simp; try with_reducible rfl
      try simp only [Act.put, List.getElem_toArray, List.getElem_cons_zero, List.getElem_cons_succ, List.setIfInBounds_toArray, List.set_cons_zero, List.set_cons_succ]
      refine wpX_load (i := 21) (v := ?_) rfl (by kernel_rfl) (fun _ _ _ h => h) hC rfl (fun w' hw' => ?_) ?_
      rotate_left
      · obtain ⟨k1, k2, k3, k4, k5, k6⟩ := hw'; go_simp; try with_reducible rfl
      try simp only [Act.put, List.getElem_toArray, List.getElem_cons_zero, List.getElem_cons_succ, List.setIfInBounds_toArray, List.set_cons_zero, List.set_cons_succ]
      refine wpX_free (i := 22) (v := ?_) rfl (by kernel_rfl) (fun _ _ _ h => h) rfl (fun w' => ?_) ?_
      rotate_left
      · go_simp; try with_reducible rfl
      try simp only [Act.put, List.getElem_toArray, List.getElem_cons_zero, List.getElem_cons_succ, List.setIfInBounds_toArray, List.set_cons_zero, List.set_cons_succ]
      refine wpX_free (i := 23) (v := ?_) rfl (by kernel_rfl) (fun _ _ _ h => h) rfl (fun w' => ?_) ?_
      rotate_left
      · go_simp; try with_reducible rfl
      try simp only [Act.put, List.getElem_toArray, List.getElem_cons_zero, List.getElem_cons_succ, List.setIfInBounds_toArray, List.set_cons_zero, List.set_cons_succ]
      refine wpX_free (i := 24) (v := ?_) rfl (by kernel_rfl) (fun _ _ _ h => h) rfl (fun w' => ?_) ?_
      rotate_left
      · go_simp; try with_reducible rfl
      try simp only [Act.put, List.getElem_toArray, List.getElem_cons_zero, List.getElem_cons_succ, List.setIfInBounds_toArray, List.set_cons_zero, List.set_cons_succ]
      refine wpX_load (i := 25) (v := ?_) rfl (by kernel_rfl) (fun _ _ _ h => h) hC rfl (fun w' hw' => ?_) ?_
      rotate_left
      · obtain ⟨k1, k2, k3, k4, k5, k6⟩ := hw'; go_simp; try with_reducible rfl
      try simp only [Act.put, List.getElem_toArray, List.getElem_cons_zero, List.getElem_cons_succ, List.setIfInBounds_toArray, List.set_cons_zero, List.set_cons_succ]
      refine wpX_oneG (i := 26) rfl (by kernel_rfl) rfl ?_
      intro K2 hK2
      go_simp
      go_at_call 67
      refine (l00Same_any _ (SM.out _ bd) (SN.out _ bd)).mono ?_
      rintro e wq ⟨he, bq⟩
      rw [show decide (tl2 = tl2) = true from by simp] at he
      subst he
      have BQ := Lib.hid (bd.trans (bq.mono bd.size))
      refine hK2 _ _ (CC.out _ BQ.out) ?_
      clear hK2 K2
      try simp only [Act.put, List.getElem_toArray, List.getElem_cons_zero, List.getElem_cons_succ, List.setIfInBounds_toArray, List.set_cons_zero, List.set_cons_succ]
      refine wpX_free (i := 27) (v := ?_) rfl (by kernel_rfl) (fun _ _ _ h => h) rfl (fun w' => ?_) ?_
      rotate_left
      · go_simp; try with_reducible rfl
      try simp only [Act.put, List.getElem_toArray, List.getElem_cons_zero, List.getElem_cons_succ, List.setIfInBounds_toArray, List.set_cons_zero, List.set_cons_succ]
      refine wpX_free (i := 28) (v := ?_) rfl (by kernel_rfl) (fun _ _ _ h => h) rfl (fun w' => ?_) ?_
      rotate_left
      · go_simp; try with_reducible rfl
      try simp only [Act.put, List.getElem_toArray, List.getElem_cons_zero, List.getElem_cons_succ, List.setIfInBounds_toArray, List.set_cons_zero, List.set_cons_succ]
      refine wpX_rest (t := []) (l := []) rfl (by kernel_rfl) (by kernel_rfl) ?_
      clear hC bd bq
      try simp only [List.getElem_toArray, List.getElem_cons_zero, List.getElem_cons_succ]
      have B3 := Lib.hid (HBW.out.trans (BQ.out.mono HBW.out.size))
      clear BQ
      go_wp2
      go_roundw
      case rel => exact ⟨i + 1, by omega, by go_num, B3.out⟩
      case measure => simp [intOf]; omega
    · obtain rfl : i = ms.length := by omega
      go_wp2
      go_ret
      exact ⟨rfl, HBw.out⟩

theorem SlII.atJ {w : World} {ad : Option Addr} {n c : Nat} {xss : List (List Int)} (h : SlII w (.slice ad n c) xss) {i : Nat} (hi : i < xss.length) : ∃ b off x, ad = some ⟨b, off, none⟩ ∧ w.cell? ⟨b, off + i, none⟩ = some x ∧ SlI w x xss[i] := by
  obtain ⟨a, ca, us, he, _, _, hul, hrd, hrow⟩ := h
  simp only [Value.slice.injEq] at he
  obtain ⟨rfl, _, rfl⟩ := he
  obtain ⟨x, b, off, h1, h2, h3⟩ := SlII.row hul hrd hrow hi
  exact ⟨b, off, x, h1, h2, h3⟩
theorem SlII.formJ {w : World} {v : Value} {xss : List (List Int)} (h : SlII w v xss) : ∃ ad c, v = .slice ad xss.length c ∧ xss.length ≤ c ∧ c ≤ maxLen := by
  obtain ⟨a, ca, us, he, h1, h2, _⟩ := h
  exact ⟨a, ca, he, h1, h2⟩
theorem MpAt.newC (w : World) (s t : Int) (v : Value) : MpAt (w.alloc (.cells #[.int .i64 s, .int .i64 t, v] 52)) w.heap.size s t v := by
  obtain ⟨c, _⟩ := Box3.new w s t v
  exact ⟨c.1, c.get 0 _ rfl, c.get 1 _ rfl, c.get 2 _ rfl⟩
set_option maxRecDepth 100000 in
set_option maxHeartbeats 8000000 in
theorem SameChain_eq {u v : Value} {xss : List (List Int)} (n t : Int) (w : World) (ha : SlII w u xss) (hb : SlII w v xss) :
    Calls Try.prog 27 #[.agg #[.int .i64 n, .int .i64 t, u], .agg #[.int .i64 n, .int .i64 t, v]] w fun e w' => e = .returned (.bool true) ∧ Below w.heap.size w w' := by
  have HA := Lib.hid (fun W (h : Below w.heap.size w W) => ha.below h)
  have HB := Lib.hid (fun W (h : Below w.heap.size w W) => hb.below h)
  obtain ⟨a, ca, rfl, hca, hca2⟩ := ha.formJ
  obtain ⟨b, cb, rfl, _, _⟩ := hb.formJ
  unfold maxLen at hca2
  obtain ⟨W2, hW2⟩ : ∃ W2, W2 = (w.alloc (.cells #[.int .i64 n, .int .i64 t, .slice a xss.length ca] 52)).alloc (.cells #[.int .i64 n, .int .i64 t, .slice b xss.length cb] 52) := ⟨_, rfl⟩
  have BX := Lib.hid (show Below w.heap.size w W2 by rw [hW2]; exact ((Below.refl _ _).alloc (Nat.le_refl _) _).alloc (by simp) _)
  have X := Lib.hid (show MpAt W2 w.heap.size n t (.slice a xss.length ca) by rw [hW2]; exact (MpAt.newC w n t _).below ((Below.refl _ _).alloc (Nat.le_refl _) _))
  have Y := Lib.hid (show MpAt W2 (w.heap.size + 1) n t (.slice b xss.length cb) by
    rw [hW2]
    have h := MpAt.newC (w.alloc (.cells #[.int .i64 n, .int .i64 t, .slice a xss.length ca] 52)) n t (.slice b xss.length cb)
    rw [show (w.alloc (.cells #[.int .i64 n, .int .i64 t, .slice a xss.length ca] 52)).heap.size = w.heap.size + 1 by simp] at h
    exact h)
  have HW2 := Lib.hid hW2.symm
  have B0 := Lib.hid (Below.refl W2.heap.size W2)
  have z2 : W2.heap.size = w.heap.size + 1 + 1 := by rw [hW2]; simp
  have q1 : (n != n) = false := by simp
  have q2 : (t != t) = false := by simp
  have q3 : ((xss.length : Int) != (xss.length : Int)) = false := by simp
  clear ha hb hW2
  obtain ⟨x0, x1, x2, x3⟩ := X.out
  obtain ⟨y0, y1, y2, y3⟩ := Y.out
  go_enter Try.func27, Try.ntmps27
  go_upto_region 1 with (fail)
  rw [HW2.out]
  go_wp2
  clear x0 x1 x2 x3 y0 y1 y2 y3
  go_loopw [5] (fun iv wr => ∃ i : Nat, i ≤ xss.length ∧ iv = .int .i64 i ∧ Below W2.heap.size W2 wr) (fun iv _ => xss.length - (intOf iv).toNat)
  case atStart => exact ⟨0, Nat.zero_le _, rfl, B0.out⟩
  case round =>
    clear B0
    obtain ⟨i, hi, rfl, hbw⟩ := hrel
    have HBW := Lib.hid hbw
    have HBw := Lib.hid (BX.out.trans (hbw.mono BX.out.size))
    obtain ⟨x0, x1, x2, x3⟩ := X.out.below hbw
    obtain ⟨y0, y1, y2, y3⟩ := Y.out.below hbw
    by_cases him : i < xss.length
    · have i1 : (i : Int) < (xss.length : Int) := by omega
      have i0 : (0 : Int) ≤ (i : Int) := by omega
      obtain ⟨mb, mo, ru, hae, gm1, sm⟩ := (HA.out _ HBw.out).atJ him
      obtain ⟨nb, no, rv, hbe, gn1, sn⟩ := (HB.out _ HBw.out).atJ him
      subst hae hbe
      have SM := Lib.hid (fun V (h : Below wr.heap.size wr V) => sm.below h)
      have SN := Lib.hid (fun V (h : Below wr.heap.size wr V) => sn.below h)
      clear sm sn hbw
      go_wp2_with fail
      refine wpX_start (fun W => W.cell? ⟨w.heap.size, 2, none⟩ = some (.slice (some ⟨mb, mo, none⟩) xss.length ca) ∧ W.cell? ⟨w.heap.size + 1, 2, none⟩ = some (.slice (some ⟨nb, no, none⟩) xss.length cb) ∧ W.cell? ⟨mb, mo + i, none⟩ = some ru ∧ W.cell? ⟨nb, no + i, none⟩ = some rv) [] (by kernel_rfl) ?_
      have bd : Below wr.heap.size wr wr.drew := (Below.refl _ _).drew
      have CC := Lib.hid (fun V (h : Below wr.heap.size wr V) => show (fun W : World => W.cell? ⟨w.heap.size, 2, none⟩ = some (.slice (some ⟨mb, mo, none⟩) xss.length ca) ∧ W.cell? ⟨w.heap.size + 1, 2, none⟩ = some (.slice (some ⟨nb, no, none⟩) xss.length cb) ∧ W.cell? ⟨mb, mo + i, none⟩ = some ru ∧ W.cell? ⟨nb, no + i, none⟩ = some rv) V from ⟨(h.cell (p := ⟨w.heap.size, 2, none⟩) (cell_lt x3)).trans x3, (h.cell (p := ⟨w.heap.size + 1, 2, none⟩) (cell_lt y3)).trans y3, (h.cell (p := ⟨mb, mo + i, none⟩) (cell_lt gm1)).trans gm1, (h.cell (p := ⟨nb, no + i, none⟩) (cell_lt gn1)).trans gn1⟩)
      have hC := CC.out _ bd
      clear x0 x1 x2 x3 y0 y1 y2 y3 gm1 gn1
      refine wpX_free (i := 0) (v := ?_) rfl (by kernel_rfl) (fun _ _ _ h => h) rfl (fun w' => ?_) ?_
      rotate_left
      · go_simp; try with_reducible rfl
      try simp only [Act.put, List.getElem_toArray, List.getElem_cons_zero, List.getElem_cons_succ, List.setIfInBounds_toArray, List.set_cons_zero, List.set_cons_succ]
      refine wpX_load (i := 1) (v := ?_) rfl (by kernel_rfl) (fun _ _ _ h => h) hC rfl (fun w' hw' => ?_) ?_
      rotate_left
      · obtain ⟨k1, k2, k3, k4⟩ := hw'; go_simp; try with_reducible rfl
      try simp only [Act.put, List.getElem_toArray, List.getElem_cons_zero, List.getElem_cons_succ, List.setIfInBounds_toArray, List.set_cons_zero, List.set_cons_succ]
      refine wpX_free (i := 2) (v := ?_) rfl (by kernel_rfl) (fun _ _ _ h => h) rfl (fun w' => ?_) ?_
      rotate_left
      · go_simp; try with_reducible rfl
      try simp only [Act.put, List.getElem_toArray, List.getElem_cons_zero, List.getElem_cons_succ, List.setIfInBounds_toArray, List.set_cons_zero, List.set_cons_succ]
      refine wpX_free (i := 3) (v := ?_) rfl (by kernel_rfl) (fun _ _ _ h => h) rfl (fun w' => ?_) ?_
      rotate_left
      · go_simp; try with_reducible rfl
      try simp only [Act.put, List.getElem_toArray, List.getElem_cons_zero, List.getElem_cons_succ, List.setIfInBounds_toArray, List.set_cons_zero, List.set_cons_succ]
      refine wpX_load (i := 4) (v := ?_) rfl (by kernel_rfl) (fun _ _ _ h => h) hC rfl (fun w' hw' => ?_) ?_
      rotate_left
      · obtain ⟨k1, k2, k3, k4⟩ := hw'; go_simp; try with_reducible rfl
      try simp only [Act.put, List.getElem_toArray, List.getElem_cons_zero, List.getElem_cons_succ, List.setIfInBounds_toArray, List.set_cons_zero, List.set_cons_succ]
      refine wpX_free (i := 5) (v := ?_) rfl (by kernel_rfl) (fun _ _ _ h => h) rfl (fun w' => ?_) ?_
      rotate_left
      · go_simp; try with_reducible rfl
      try simp only [Act.put, List.getElem_toArray, List.getElem_cons_zero, List.getElem_cons_succ, List.setIfInBounds_toArray, List.set_cons_zero, List.set_cons_succ]
      refine wpX_load (i := 6) (v := ?_) rfl (by kernel_rfl) (fun _ _ _ h => h) hC rfl (fun w' hw' => ?_) ?_
      rotate_left
      · obtain ⟨k1, k2, k3, k4⟩ := hw'; go_simp; try with_reducible rfl
      try simp only [Act.put, List.getElem_toArray, List.getElem_cons_zero, List.getElem_cons_succ, List.setIfInBounds_toArray, List.set_cons_zero, List.set_cons_succ]
      refine wpX_free (i := 7) (v := ?_) rfl (by kernel_rfl) (fun _ _ _ h => h) rfl (fun w' => ?_) ?_
      rotate_left
      · go_simp; try with_reducible rfl
      try simp only [Act.put, List.getElem_toArray, List.getElem_cons_zero, List.getElem_cons_succ, List.setIfInBounds_toArray, List.set_cons_zero, List.set_cons_succ]
      refine wpX_free (i := 8) (v := ?_) rfl (by kernel_rfl) (fun _ _ _ h => h) rfl (fun w' => ?_) ?_
      rotate_left
      · go_simp; try with_reducible rfl
      try simp only [Act.put, List.getElem_toArray, List.getElem_cons_zero, List.getElem_cons_succ, List.setIfInBounds_toArray, List.set_cons_zero, List.set_cons_succ]
      refine wpX_load (i := 9) (v := ?_) rfl (by kernel_rfl) (fun _ _ _ h => h) hC rfl (fun w' hw' => ?_) ?_
      rotate_left
      · obtain ⟨k1, k2, k3, k4⟩ := hw'; go_simp; try with_reducible rfl
      try simp only [Act.put, List.getElem_toArray, List.getElem_cons_zero, List.getElem_cons_succ, List.setIfInBounds_toArray, List.set_cons_zero, List.set_cons_succ]
      refine wpX_one (i := 10) rfl (by kernel_rfl) rfl ?_
      intro K2 hK2
      go_simp
      go_at_call 67
      refine (l00Same_any _ (SM.out _ bd) (SN.out _ bd)).mono ?_
      rintro e wq ⟨he, bq⟩
      rw [show decide (xss[i] = xss[i]) = true from by simp] at he
      subst he
      have BQ := Lib.hid (bd.trans (bq.mono bd.size))
      refine hK2 _ _ (CC.out _ BQ.out) ?_
      clear hK2 K2
      try simp only [Act.put, List.getElem_toArray, List.getElem_cons_zero, List.getElem_cons_succ, List.setIfInBounds_toArray, List.set_cons_zero, List.set_cons_succ]
      refine wpX_free (i := 11) (v := ?_) rfl (by kernel_rfl) (fun _ _ _ h => h) rfl (fun w' => ?_) ?_
      rotate_left
      · go_simp; try with_reducible rfl
      try simp only [Act.put, List.getElem_toArray, List.getElem_cons_zero, List.getElem_cons_succ, List.setIfInBounds_toArray, List.set_cons_zero, List.set_cons_succ]
      refine wpX_rest (t := []) (l := []) rfl (by kernel_rfl) (by kernel_rfl) ?_
      clear hC bd bq
      try simp only [List.getElem_toArray, List.getElem_cons_zero, List.getElem_cons_succ]
      have B3 := Lib.hid (HBW.out.trans (BQ.out.mono HBW.out.size))
      clear BQ
      go_wp2
      go_roundw
      case rel => exact ⟨i + 1, by omega, by go_num, B3.out⟩
      case measure => simp [intOf]; omega
    · obtain rfl : i = xss.length := by omega
      go_wp2
      go_ret
      exact ⟨rfl, HBw.out⟩
end Go.Proofs.Ytceobhmbnkheiaa
