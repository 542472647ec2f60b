/-
  Maps and their chains: draws; the chain of valid maps is valid. With it: What the laws draw: one of some numbers, rows of weights, picks, draws. Maps (a weight and where each state goes): lists of them read, owned, grown; which are valid. Maps and their chains: the plain law.
-/
import Derived.Test.YtceobhmbnkheiaaZRowFnMaps15
import Derived.Test.YtceobhmbnkheiaaZRowFnMaps8
import Derived.Test.YtceobhmbnkheiaaZRowFnMaps3
import Derived.Test.YtceobhmbnkheiaaZRowFnMaps4
set_option linter.unusedVariables false
set_option linter.unusedSimpArgs false
namespace Go.Proofs.Ytceobhmbnkheiaa
open Go.RowKit Go.Sort
theorem sum_set {n : Int} : ∀ {r : List Int} {z : Nat} (h : z < r.length), (r.set z (r[z] + n)).sum = r.sum + n
  | [], _, h => by simp at h
  | x :: r, 0, _ => by simp; omega
  | x :: r, z + 1, h => by
    have ih := sum_set (n := n) (r := r) (z := z) (by simpa using h)
    simp only [List.set_cons_succ, List.sum_cons, List.getElem_cons_succ]
    omega

set_option maxHeartbeats 2000000 in
theorem P6Draws_any {xs : List Int} (ad : Option Addr) (n c t most : Nat) (w : World) (hn : n ≤ 4096) (hx : xs.length = n) (hr : Rd w ad (xs.map (.int .u8))) (hb : ∀ x ∈ xs, 0 ≤ x ∧ x < 256) (ht : 1 ≤ t) (hmo : most ≤ 100) :
    Calls Try.prog 10 #[.slice ad n c, .int .i64 t, .int .i64 most] w fun e w' => ∃ (v : Value) (ds : List Int), e = .returned v ∧ DrawsB t ds ∧ ds.length ≤ most ∧ OwnI w' w.heap.size v ds ∧ Below w.heap.size w w' := by
  have HR := Lib.hid hr
  have HB := Lib.hid hb
  have HX := Lib.hid hx
  clear hr hb hx
  go_enter Try.func10, Try.ntmps10
  go_wp2_with fail
  refine (l00From_any ad n c _ hn HX.out HR.out HB.out).mono ?_
  rintro e w1 ⟨rfl, s1, b1⟩
  have hz1 := s1.lt
  have own0 := Lib.hid (OwnI.empty w1 (base := w1.heap.size) (Nat.le_refl _))
  have s2 := Lib.hid (s1.below ((Below.refl w1.heap.size w1).alloc (Nat.le_refl _) (.cells #[] 2)))
  have f2 := Lib.hid (Fs.of_below (S := fun k => k = w.heap.size) ((Below.refl w1.heap.size w1).alloc (Nat.le_refl _) (.cells #[] 2)))
  have B1 := Lib.hid b1
  have r1 : IntKind.i64.wrap ((most : Int) + 1) = ((most + 1 : Nat) : Int) := by rw [IntWalk.i64_in _ (by omega)]; simp
  clear s1 b1
  go_wp2_with fail
  refine (pick_any w.heap.size 0 ((most + 1 : Nat) : Int) _ s2.out (by omega)).mono ?_
  rintro e w3 ⟨y, rfl, hy0, hy1, s3, f3⟩
  obtain ⟨y, rfl⟩ := Int.eq_ofNat_of_zero_le hy0
  have hym : y ≤ most := by omega
  have o3 := Lib.hid (own0.out.fs f3 (fun k hk => by omega))
  have F3 := Lib.hid (f2.out.trans f3)
  have S3 := Lib.hid s3
  clear hy0 hy1 s3 f3
  go_wp2
  go_loopw [8, 9] (fun v i wr => ∃ (q : Nat) (ds : List Int), q ≤ y ∧ i = .int .i64 q ∧ ds.length + q = y ∧ DrawsB t ds ∧ OwnI wr w1.heap.size v ds ∧ SrcB wr w.heap.size (2 + 2 * ds.length) ∧ Fs (fun k => k = w.heap.size) w1 wr) (fun _ i _ => (intOf i).toNat)
  case atStart => exact ⟨y, [], Nat.le_refl _, rfl, by simp, by intro d hd; simp at hd, o3.out, S3.out, F3.out⟩
  case round =>
    clear o3 S3 F3
    obtain ⟨q, ds, hq, rfl, hql, hdb, hown, hsrc, hf⟩ := hrel
    have HDB := Lib.hid hdb
    have HO := Lib.hid hown
    have HF := Lib.hid hf
    clear hdb hown hf
    by_cases hq0 : 0 < q
    · have i0 : (0 : Int) < (q : Int) := by omega
      go_wp2_with fail
      refine (pick_any w.heap.size _ t _ hsrc (by omega)).mono ?_
      rintro e w4 ⟨d, rfl, hd0, hd1, s4, f4⟩
      have o4 := HO.out.fs f4 (fun k hk => by omega)
      have F4 := Lib.hid (HF.out.trans f4)
      have S4 := Lib.hid s4
      have hz4 : w1.heap.size ≤ w4.heap.size := F4.out.size
      have hln : ds.length < 16777216 := by omega
      have r3 : IntKind.i64.wrap ((q : Int) - 1) = ((q - 1 : Nat) : Int) := by rw [IntWalk.i64_in _ (by omega)]; omega
      clear s4 f4 hsrc
      go_wp2_with (at_builtin; refine append_i64 _ d _ _ rfl rfl rfl o4 rfl hln hz4 ?_)
      intro v5 w5 o5 b5 z5
      have hb5 : Below w1.heap.size w4 w5 := ((Below.refl w1.heap.size w4).alloc hz4 _).trans b5
      have F5 := Lib.hid (show Fs (fun k => k = w.heap.size) w1 w5 from ⟨hb5.os.trans F4.out.os, hb5.tape.trans F4.out.tape, hb5.output.trans F4.out.output, Nat.le_trans F4.out.size hb5.size, fun k hk hx => (hb5.block k hk).trans (F4.out.block k hk hx)⟩)
      have S5 := Lib.hid (S4.out.fs (S := fun k => w1.heap.size ≤ k) (w' := w5) ⟨hb5.os, hb5.tape, hb5.output, hb5.size, fun k hk hx => hb5.block k (by omega)⟩ (fun k hk => by omega))
      clear b5 hb5
      go_wp2
      go_roundw
      case rel => exact ⟨q - 1, ds ++ [d], by omega, by go_num, by simp; omega, fun x hx => by
        simp only [List.mem_append, List.mem_singleton] at hx
        rcases hx with hx | rfl
        · exact HDB.out x hx
        · omega, o5, S5.out.more (by simp; omega), F5.out⟩
      case measure => simp [intOf]; omega
    · obtain rfl : q = 0 := by omega
      go_wp2
      go_ret
      exact ⟨_, ds, rfl, HDB.out, by omega, HO.out.lower B1.out.size, B1.out.trans (HF.out.below (B := w.heap.size) B1.out.size (fun k hk => by omega))⟩
end Go.Proofs.Ytceobhmbnkheiaa
namespace Go.Proofs.Ytceobhmbnkheiaa
open Go.RowKit Go.Sort
def RowV := {v : Value // v.oneCell' = true}
def encM (x : Int × RowV) : List Value := [.int .i64 x.1, x.2.1]
theorem encM_one (x : Int × RowV) (u : Value) (h : u ∈ encM x) : u.oneCell' = true := by
  simp [encM] at h
  rcases h with rfl | rfl
  · rfl
  · exact x.2.2

def FM : Flat (Int × RowV) := ⟨24, 43, .agg #[.int .i64 0, .slice none 0 0], 2, 32, encM, Try.underlying24, by kernel_rfl, rfl, by decide, by decide, fun _ => rfl, encM_one⟩
def PairM (P : Value → List Int → Prop) (us : List (Int × RowV)) (ms : List (Int × List Int)) : Prop :=
  us.length = ms.length ∧ ∀ (i : Nat) (u : Int × RowV) (m : Int × List Int), us[i]? = some u → ms[i]? = some m → u.1 = m.1 ∧ P u.2.1 m.2
def SlM (w : World) (v : Value) (ms : List (Int × List Int)) : Prop := ∃ us, FM.Sl w v us ∧ PairM (SlI w) us ms
def OwnM (w : World) (base : Nat) (v : Value) (ms : List (Int × List Int)) : Prop := ∃ us, FM.Own w base v us ∧ PairM (OwnI w base) us ms
theorem PairM.imp {P Q : Value → List Int → Prop} {us : List (Int × RowV)} {ms : List (Int × List Int)} (h : PairM P us ms) (hpq : ∀ v xs, P v xs → Q v xs) : PairM Q us ms :=
  ⟨h.1, fun i u m hu hm => ⟨(h.2 i u m hu hm).1, hpq _ _ (h.2 i u m hu hm).2⟩⟩
theorem SlM.below {w w' : World} {v : Value} {ms : List (Int × List Int)} (h : SlM w v ms) (hb : Below w.heap.size w w') : SlM w' v ms := by
  obtain ⟨us, h1, h2⟩ := h
  exact ⟨us, h1.below hb, h2.imp (fun v xs h => h.below hb)⟩
theorem OwnM.below {w w' : World} {base : Nat} {v : Value} {ms : List (Int × List Int)} (h : OwnM w base v ms) (hb : Below w.heap.size w w') : OwnM w' base v ms := by
  obtain ⟨us, h1, h2⟩ := h
  exact ⟨us, h1.below hb, h2.imp (fun v xs h => h.below hb)⟩
theorem OwnM.lower {w : World} {base base' : Nat} {v : Value} {ms : List (Int × List Int)} (h : OwnM w base v ms) (hb : base' ≤ base) : OwnM w base' v ms := by
  obtain ⟨us, h1, h2⟩ := h
  exact ⟨us, h1.lower hb, h2.imp (fun v xs h => h.lower hb)⟩
theorem OwnM.sl {w : World} {base : Nat} {v : Value} {ms : List (Int × List Int)} (h : OwnM w base v ms) : SlM w v ms := by
  obtain ⟨us, h1, h2⟩ := h
  exact ⟨us, h1.sl, h2.imp (fun v xs h => h.sl)⟩
theorem OwnM.nil (w : World) (base : Nat) : OwnM w base (.slice none 0 0) [] := ⟨[], Flat.Own.nil _ _, rfl, by intro i u m h; simp at h⟩
theorem flat_fs {α : Type} {F : Flat α} {w w' : World} {base : Nat} {v : Value} {xs : List α} {S : Nat → Prop} (h : F.Own w base v xs) (hf : Fs S w w') (hS : ∀ k, S k → k < base) : F.Own w' base v xs := by
  refine ⟨h.1, ?_⟩
  rcases h.2 with h2 | ⟨g, c, cur, h1, h2, h3, h4⟩
  · exact .inl h2
  · refine .inr ⟨g, c, cur, h1, h2, ?_, h4⟩
    rw [hf.block g (Array.getElem?_eq_some_iff.1 h3).1 (fun hx => by have := hS g hx; omega)]; exact h3
theorem OwnM.fs {w w' : World} {base : Nat} {v : Value} {ms : List (Int × List Int)} {S : Nat → Prop} (h : OwnM w base v ms) (hf : Fs S w w') (hS : ∀ k, S k → k < base) : OwnM w' base v ms := by
  obtain ⟨us, h1, h2⟩ := h
  exact ⟨us, flat_fs h1 hf hS, h2.imp (fun v xs h => h.fs hf hS)⟩
theorem SlM.form {w : World} {v : Value} {ms : List (Int × List Int)} (h : SlM w v ms) : ∃ ad c, v = .slice ad ms.length c ∧ ms.length ≤ c ∧ c ≤ maxLen := by
  obtain ⟨us, ⟨ad, c, h1, h2, h3, _⟩, h4, _⟩ := h
  exact ⟨ad, c, by rw [← h4]; exact h1, by rw [← h4]; exact h2, h3⟩
theorem SlM.at_ {w : World} {ad : Option Addr} {n c : Nat} {ms : List (Int × List Int)} (h : SlM w (.slice ad n c) ms) {i : Nat} (hi : i < ms.length) :
    ∃ b off ra rc, ad = some ⟨b, off, none⟩ ∧ b < w.heap.size ∧ w.cell? ⟨b, off + i * 2, none⟩ = some (.int .i64 ms[i].1) ∧ w.cell? ⟨b, off + i * 2 + 1, none⟩ = some (.slice ra ms[i].2.length rc) ∧ SlI w (.slice ra ms[i].2.length rc) ms[i].2 := by
  obtain ⟨us, h1, h2, h3⟩ := h
  have hu : i < us.length := by omega
  obtain ⟨b, off, h4, h5, h6⟩ := h1.at_ hu
  obtain ⟨e1, e2⟩ := h3 i us[i] ms[i] (List.getElem?_eq_getElem hu) (List.getElem?_eq_getElem hi)
  obtain ⟨ra, rc, e3, e4, e5, e6⟩ := e2
  have k0 := h6 0 (.int .i64 us[i].1) rfl
  have k1 := h6 1 us[i].2.1 rfl
  rw [e1, show off + (i * FM.size + 0) = off + i * 2 from by show off + (i * 2 + 0) = _; omega] at k0
  rw [e3, show off + (i * FM.size + 1) = off + i * 2 + 1 from by show off + (i * 2 + 1) = _; omega] at k1
  exact ⟨b, off, ra, rc, h4, h5, k0, k1, ra, rc, rfl, e4, e5, e6⟩
/-- an int row's block is no block of maps -/
theorem OwnI.apartM {w : World} {base base' : Nat} {u v : Value} {xs : List Int} {us : List (Int × RowV)} (h : OwnI w base u xs) (h2 : FM.Own w base' v us) {g : Nat} (hu : u.ownBlock = some g) : v.ownBlock ≠ some g := by
  intro hv
  rcases h.2 with ⟨rfl, _⟩ | ⟨g1, c1, cur1, rfl, _, k1, _⟩
  · simp [Value.ownBlock] at hu
  · rcases h2.2 with ⟨rfl, _⟩ | ⟨g2, c2, cur2, rfl, _, k2, _⟩
    · simp [Value.ownBlock] at hv
    · simp [Value.ownBlock] at hu hv
      subst hu
      subst hv
      rw [k1] at k2
      simp [FM] at k2
/-- append(v, Map{y, u}) on owned maps -/
theorem append_map {ops : Array Oper} {rest : List Oper} {o : Oper} {a : Act} {Q : Exit → Act → World → Prop} (w : World) (s x : Operand) (hg : o.guard = none)
    (ho : o.op = .call { callee := .builtin .append, args := #[s, x], argTypes := #[24, 24] })
    {base : Nat} {v u : Value} {ms : List (Int × List Int)} {y : Int} {xs : List Int} (hs : a.eval s = v) (hown : OwnM w base v ms) (hu : OwnI w base u xs) {t g0 : Nat} (hg0 : w.heap.size = g0) (hx : a.eval x = .slice (some ⟨g0, 0, none⟩) 1 1)
    (hlen : ms.length < 16777216) (hbase : base ≤ w.heap.size)
    (h : ∀ v' w', OwnM w' base v' (ms ++ [(y, xs)]) → Below base (w.alloc (.cells #[.int .i64 y, u] t)) w' → w.heap.size < w'.heap.size → wpList Try.prog ops Q rest (a.put o.dst v') w') : wpList Try.prog ops Q (o :: rest) a (w.alloc (.cells #[.int .i64 y, u] t)) := by
  subst hg0
  obtain ⟨us, h1, h2⟩ := hown
  have hu1 : u.oneCell' = true := by
    rcases hu.2 with ⟨rfl, _⟩ | ⟨g, c, cur, rfl, _⟩ <;> rfl
  have bx : Below w.heap.size w (w.alloc (.cells #[.int .i64 y, u] t)) := (Below.refl _ _).alloc (Nat.le_refl _) _
  have h1' := h1.below bx
  have hu' := hu.below bx
  refine Flat.append FM _ s x hg ho (ys := [(y, ⟨u, hu1⟩)]) hs h1' hx (rd_new w #[.int .i64 y, u] t) (by rw [h2.1]; simp; omega) (by simp; omega) (fun v' w' k1 k2 k3 => ?_)
  have key : ∀ (v0 : Value) (zs : List Int), OwnI (w.alloc (.cells #[.int .i64 y, u] t)) base v0 zs → OwnI w' base v0 zs := fun v0 zs ho => ho.kept k2 (by
    cases hb : v0.ownBlock with
    | none => exact .inl rfl
    | some g => exact .inr (Ne.symm (ho.apartM h1' hb)))
  refine h v' w' ⟨_, k1, by simp [h2.1], fun i u0 m hi hm => ?_⟩ k3 (by have := k3.size; have := k2.size; simp at this; omega)
  have hul := h2.1
  by_cases hlt : i < us.length
  · rw [List.getElem?_append_left hlt] at hi
    rw [List.getElem?_append_left (by rw [← h2.1]; exact hlt)] at hm
    obtain ⟨e1, e2⟩ := h2.2 i u0 m hi hm
    exact ⟨e1, key _ _ (e2.below bx)⟩
  · rw [List.getElem?_append_right (by omega)] at hi hm
    have h0 : i - us.length = 0 := by
      rcases Nat.eq_zero_or_pos (i - us.length) with e | e
      · exact e
      · rw [List.getElem?_eq_none (by simp; omega)] at hi; simp at hi
    rw [h0] at hi
    rw [← h2.1, h0] at hm
    simp at hi hm
    subst hi hm
    exact ⟨rfl, key _ _ hu'⟩
/-- valid maps -/
def rowOkM (s : Int) (r : List Int) : Bool := decide ((r.length : Int) = s) && r.all (fun x => decide (0 ≤ x) && decide (x < s))
def mapsOk (s t : Int) (ms : List (Int × List Int)) : Prop :=
  (1 ≤ s ∧ s ≤ 6) ∧ (1 ≤ t ∧ t ≤ 60) ∧ (1 ≤ ms.length ∧ ms.length ≤ 60) ∧ (∀ m ∈ ms, 1 ≤ m.1 ∧ (m.2.length : Int) = s ∧ ∀ x ∈ m.2, 0 ≤ x ∧ x < s) ∧ (ms.map (·.1)).sum = t
/-- where a state goes by a map -/
def goM (ms : List (Int × List Int)) (p x : Int) : Int := ((ms.getD p.toNat (0, [])).2).getD x.toNat 0
def byM (ms : List (Int × List Int)) (st : List Int) (p : Int) : List Int := st.map (goM ms p)
def sumW (ms : List (Int × List Int)) (k : Nat) : Int := ((ms.take k).map (·.1)).sum
theorem sumW_succ {ms : List (Int × List Int)} {k : Nat} (h : k < ms.length) : sumW ms (k + 1) = sumW ms k + ms[k].1 := by
  unfold sumW
  rw [List.take_succ_eq_append_getElem h, List.map_append, List.sum_append]; simp
theorem sumW_all (ms : List (Int × List Int)) : sumW ms ms.length = (ms.map (·.1)).sum := by unfold sumW; rw [List.take_length]
theorem sum_le_of_nonneg : ∀ {l : List Int}, (∀ x ∈ l, 0 ≤ x) → 0 ≤ l.sum
  | [], _ => by simp
  | x :: l, h => by
    have h1 := h x (by simp)
    have h2 := sum_le_of_nonneg (l := l) (fun y hy => h y (by simp [hy]))
    simp; omega
theorem mapsOk.sums {s t : Int} {ms : List (Int × List Int)} (h : mapsOk s t ms) {k : Nat} (hk : k ≤ ms.length) : 0 ≤ sumW ms k ∧ sumW ms k ≤ t := by
  obtain ⟨_, _, _, h4, h5⟩ := h
  have e : (ms.map (·.1)).sum = sumW ms k + ((ms.drop k).map (·.1)).sum := by
    unfold sumW
    rw [← List.sum_append, ← List.map_append, List.take_append_drop]
  have n1 : 0 ≤ sumW ms k := sum_le_of_nonneg (fun x hx => by
    rw [List.mem_map] at hx
    obtain ⟨m, hm, rfl⟩ := hx
    have := h4 m (List.mem_of_mem_take hm); omega)
  have n2 : 0 ≤ ((ms.drop k).map (·.1)).sum := sum_le_of_nonneg (fun x hx => by
    rw [List.mem_map] at hx
    obtain ⟨m, hm, rfl⟩ := hx
    have := h4 m (List.mem_of_mem_drop hm); omega)
  omega
theorem mapsOk.wt {s t : Int} {ms : List (Int × List Int)} (h : mapsOk s t ms) {k : Nat} (hk : k < ms.length) : 1 ≤ ms[k].1 ∧ ms[k].1 ≤ t := by
  have h1 := (h.sums (k := k) (by omega)).1
  have h2 := (h.sums (k := k + 1) (by omega)).2
  rw [sumW_succ hk] at h2
  obtain ⟨_, _, _, h4, _⟩ := h
  exact ⟨(h4 _ (List.getElem_mem hk)).1, by omega⟩
theorem goM_at {ms : List (Int × List Int)} {p x : Nat} (hp : p < ms.length) (hx : x < ms[p].2.length) : goM ms p x = ms[p].2[x] := by
  unfold goM
  simp [List.getD, hp, hx]
theorem goM_in {s t : Int} {ms : List (Int × List Int)} (h : mapsOk s t ms) {p x : Int} (hp : 0 ≤ p ∧ p < ms.length) (hx : 0 ≤ x ∧ x < s) : 0 ≤ goM ms p x ∧ goM ms p x < s := by
  obtain ⟨p, rfl⟩ := Int.eq_ofNat_of_zero_le hp.1
  obtain ⟨x, rfl⟩ := Int.eq_ofNat_of_zero_le hx.1
  obtain ⟨_, _, _, h4, _⟩ := h
  have hpl : p < ms.length := by omega
  obtain ⟨_, h6, h7⟩ := h4 _ (List.getElem_mem hpl)
  have hxl : x < ms[p].2.length := by omega
  rw [goM_at hpl hxl]
  exact h7 _ (List.getElem_mem hxl)
end Go.Proofs.Ytceobhmbnkheiaa
namespace Go.Proofs.Ytceobhmbnkheiaa
open Go.RowKit Go.Sort
def sumN (n : Nat) (f : Nat → Int) : Int := ((List.range n).map f).sum
theorem sumN_zero (f : Nat → Int) : sumN 0 f = 0 := rfl
theorem sumN_succ (n : Nat) (f : Nat → Int) : sumN (n + 1) f = sumN n f + f n := by
  unfold sumN
  rw [List.range_succ, List.map_append, List.sum_append]
  simp
theorem sumN_congr : ∀ {n : Nat} {f g : Nat → Int}, (∀ k, k < n → f k = g k) → sumN n f = sumN n g
  | 0, _, _, _ => rfl
  | n + 1, f, g, h => by rw [sumN_succ, sumN_succ, sumN_congr (fun k hk => h k (by omega)), h n (by omega)]
theorem sumN_add (f g : Nat → Int) : ∀ n, sumN n (fun k => f k + g k) = sumN n f + sumN n g
  | 0 => rfl
  | n + 1 => by rw [sumN_succ, sumN_succ, sumN_succ, sumN_add f g n]; omega
theorem sumN_none {f : Nat → Int} : ∀ {n : Nat}, (∀ k, k < n → f k = 0) → sumN n f = 0
  | 0, _ => rfl
  | n + 1, h => by rw [sumN_succ, sumN_none (fun k hk => h k (by omega)), h n (by omega)]; rfl
theorem sumN_one {f : Nat → Int} : ∀ {n j : Nat}, j < n → (∀ k, k < n → k ≠ j → f k = 0) → sumN n f = f j
  | 0, _, h, _ => absurd h (by omega)
  | n + 1, j, h, hk => by
    rw [sumN_succ]
    by_cases hj : j = n
    · subst hj
      rw [sumN_none (fun k h1 => hk k (by omega) (by omega))]; omega
    · rw [sumN_one (j := j) (by omega) (fun k h1 h2 => hk k (by omega) h2), hk n (by omega) (fun e => hj e.symm)]; omega
/-- the weight of the maps that take s to t -/
def hit (m : Int × List Int) (s : Nat) (t : Int) : Int := if m.2.getD s 0 = t then m.1 else 0
def hits (ms : List (Int × List Int)) (s : Nat) (t : Int) : Int := (ms.map fun m => hit m s t).sum
def chainM (n : Nat) (ms : List (Int × List Int)) : List (List Int) := (List.range n).map fun s => (List.range n).map fun (t : Nat) => hits ms s (t : Int)
theorem hits_nil (s : Nat) (t : Int) : hits [] s t = 0 := rfl
theorem hits_cons (m : Int × List Int) (ms : List (Int × List Int)) (s : Nat) (t : Int) : hits (m :: ms) s t = hit m s t + hits ms s t := by unfold hits; rw [List.map_cons, List.sum_cons]
theorem hits_append (ms ns : List (Int × List Int)) (s : Nat) (t : Int) : hits (ms ++ ns) s t = hits ms s t + hits ns s t := by unfold hits; rw [List.map_append, List.sum_append]
theorem hits_take {ms : List (Int × List Int)} {i : Nat} (h : i < ms.length) (s : Nat) (t : Int) : hits (ms.take (i + 1)) s t = hits (ms.take i) s t + hit ms[i] s t := by
  rw [List.take_succ_eq_append_getElem h, hits_append, hits_cons, hits_nil]; omega
/- tidy -/
def addTo : List (Int × List Int) → Int → List Int → List (Int × List Int)
  | [], w, tl => [(w, tl)]
  | m :: r, w, tl => if m.2 = tl then (m.1 + w, m.2) :: r else m :: addTo r w tl
def tidyM (ms : List (Int × List Int)) : List (Int × List Int) := ms.foldl (fun acc m => addTo acc m.1 m.2) []
def sumM (ms : List (Int × List Int)) : Int := (ms.map (·.1)).sum
theorem addTo_hits (s : Nat) (t : Int) (w : Int) (tl : List Int) : ∀ ms, hits (addTo ms w tl) s t = hits ms s t + hit (w, tl) s t
  | [] => by show hits [(w, tl)] s t = _; rw [hits_cons, hits_nil]; omega
  | m :: r => by
    unfold addTo
    by_cases h : m.2 = tl
    · rw [if_pos h, hits_cons, hits_cons]
      unfold hit
      rw [← h]
      show (if m.2.getD s 0 = t then m.1 + w else 0) + _ = _
      by_cases h2 : m.2.getD s 0 = t
      · rw [if_pos h2, if_pos h2, if_pos h2]; omega
      · rw [if_neg h2, if_neg h2, if_neg h2]; omega
    · rw [if_neg h, hits_cons, hits_cons, addTo_hits s t w tl r]; omega
theorem addTo_sum (w : Int) (tl : List Int) : ∀ ms, sumM (addTo ms w tl) = sumM ms + w
  | [] => by simp [addTo, sumM]
  | m :: r => by
    unfold addTo
    by_cases h : m.2 = tl
    · rw [if_pos h]; simp [sumM]; omega
    · rw [if_neg h]
      have := addTo_sum w tl r
      simp [sumM] at this ⊢; omega
theorem addTo_len (w : Int) (tl : List Int) : ∀ ms, (addTo ms w tl).length ≤ ms.length + 1 ∧ 1 ≤ (addTo ms w tl).length
  | [] => by simp [addTo]
  | m :: r => by
    unfold addTo
    by_cases h : m.2 = tl
    · rw [if_pos h]; simp
    · rw [if_neg h]
      have := addTo_len w tl r
      simp; omega
theorem addTo_all {s : Int} {w : Int} {tl : List Int} (hw : 1 ≤ w) (ht : (tl.length : Int) = s ∧ ∀ x ∈ tl, 0 ≤ x ∧ x < s) : ∀ {ms : List (Int × List Int)}, (∀ m ∈ ms, 1 ≤ m.1 ∧ (m.2.length : Int) = s ∧ ∀ x ∈ m.2, 0 ≤ x ∧ x < s) → ∀ m ∈ addTo ms w tl, 1 ≤ m.1 ∧ (m.2.length : Int) = s ∧ ∀ x ∈ m.2, 0 ≤ x ∧ x < s
  | [], _, m, hm => by
    simp [addTo] at hm; subst hm; exact ⟨hw, ht⟩
  | a :: r, h, m, hm => by
    unfold addTo at hm
    have h1 := h a (by simp)
    by_cases e : a.2 = tl
    · rw [if_pos e, List.mem_cons] at hm
      rcases hm with rfl | hm
      · exact ⟨by show 1 ≤ a.1 + w; omega, h1.2⟩
      · exact h m (by simp [hm])
    · rw [if_neg e, List.mem_cons] at hm
      rcases hm with rfl | hm
      · exact h1
      · exact addTo_all hw ht (fun x hx => h x (by simp [hx])) m hm
theorem tidy_step {ms : List (Int × List Int)} {i : Nat} (h : i < ms.length) : tidyM (ms.take (i + 1)) = addTo (tidyM (ms.take i)) ms[i].1 ms[i].2 := by
  unfold tidyM
  rw [List.take_succ_eq_append_getElem h, List.foldl_append]; rfl
theorem tidy_pre {n t : Int} {ms : List (Int × List Int)} (h : mapsOk n t ms) : ∀ i, i ≤ ms.length → (∀ s u, hits (tidyM (ms.take i)) s u = hits (ms.take i) s u) ∧ sumM (tidyM (ms.take i)) = sumM (ms.take i) ∧ (tidyM (ms.take i)).length ≤ i ∧ (1 ≤ i → 1 ≤ (tidyM (ms.take i)).length) ∧ ∀ m ∈ tidyM (ms.take i), 1 ≤ m.1 ∧ (m.2.length : Int) = n ∧ ∀ x ∈ m.2, 0 ≤ x ∧ x < n
  | 0, _ => ⟨fun _ _ => rfl, rfl, Nat.le_refl _, fun h => by omega, fun m hm => by simp [tidyM] at hm⟩
  | i + 1, hi => by
    obtain ⟨h1, h2, h3, _, h5⟩ := tidy_pre h i (by omega)
    obtain ⟨_, _, _, hrow, _⟩ := h
    have hr := hrow _ (List.getElem_mem (show i < ms.length by omega))
    rw [tidy_step (by omega)]
    refine ⟨fun s u => ?_, ?_, ?_, fun _ => (addTo_len _ _ _).2, addTo_all hr.1 hr.2 h5⟩
    · rw [addTo_hits, h1, hits_take (by omega)]
    · rw [addTo_sum, h2]
      unfold sumM
      rw [List.take_succ_eq_append_getElem (show i < ms.length by omega), List.map_append, List.sum_append]; simp
    · have := (addTo_len ms[i].1 ms[i].2 (tidyM (ms.take i))).1; omega
theorem tidy_ok {n t : Int} {ms : List (Int × List Int)} (h : mapsOk n t ms) : mapsOk n t (tidyM ms) ∧ (tidyM ms).length ≤ ms.length ∧ ∀ k, chainM k (tidyM ms) = chainM k ms := by
  have hp := tidy_pre h ms.length (Nat.le_refl _)
  rw [List.take_length] at hp
  obtain ⟨h1, h2, h3, h4, h5⟩ := hp
  obtain ⟨a, b, c, _, e⟩ := h
  refine ⟨⟨a, b, ⟨h4 c.1, by omega⟩, h5, ?_⟩, h3, fun k => ?_⟩
  · exact h2.trans e
  · unfold chainM; simp only [h1]
/- one behind the other -/
def thenOne (x y : Int × List Int) : Int × List Int := (x.1 * y.1, x.2.map fun k => y.2.getD k.toNat 0)
def thenM (ms ns : List (Int × List Int)) : List (Int × List Int) := ms.flatMap fun x => ns.map (thenOne x)
theorem then_hit {x : Int × List Int} {s : Nat} (hs : s < x.2.length) (t : Int) : ∀ ns, hits (ns.map (thenOne x)) s t = x.1 * hits ns (x.2.getD s 0).toNat t
  | [] => by simp [hits]
  | y :: ns => by
    rw [List.map_cons, hits_cons, hits_cons, then_hit hs t ns, Int.mul_add]
    congr 1
    unfold hit thenOne
    have e : (x.2.map fun k => y.2.getD k.toNat 0).getD s 0 = y.2.getD (x.2.getD s 0).toNat 0 := by
      rw [List.getD_eq_getElem?_getD, List.getElem?_map, List.getD_eq_getElem?_getD (l := x.2), List.getElem?_eq_getElem hs]
      rfl
    show (if (x.2.map fun k => y.2.getD k.toNat 0).getD s 0 = t then x.1 * y.1 else 0) = _
    rw [e]
    by_cases h : y.2.getD (x.2.getD s 0).toNat 0 = t
    · rw [if_pos h, if_pos h]
    · rw [if_neg h, if_neg h, Int.mul_zero]
theorem then_hits {n : Nat} {s : Nat} (hs : s < n) (t : Int) (ns : List (Int × List Int)) : ∀ ms : List (Int × List Int), (∀ m ∈ ms, m.2.length = n ∧ ∀ x ∈ m.2, 0 ≤ x ∧ x < (n : Int)) → hits (thenM ms ns) s t = sumN n fun k => hits ms s (k : Int) * hits ns k t
  | [], _ => by
    symm
    exact sumN_none (fun k _ => by rw [hits_nil, Int.zero_mul])
  | m :: ms, h => by
    have hm := h m (by simp)
    have hsl : s < m.2.length := by omega
    have hx := hm.2 _ (List.getElem_mem hsl)
    have e0 : m.2.getD s 0 = m.2[s] := by rw [List.getD_eq_getElem?_getD, List.getElem?_eq_getElem hsl]; rfl
    unfold thenM
    rw [List.flatMap_cons, hits_append, then_hit hsl]
    rw [show (ms.flatMap fun x => ns.map (thenOne x)) = thenM ms ns from rfl, then_hits hs t ns ms (fun x hx => h x (by simp [hx]))]
    obtain ⟨j, hj⟩ := Int.eq_ofNat_of_zero_le hx.1
    have hjn : j < n := by omega
    have e1 : sumN n (fun k => hits (m :: ms) s (k : Int) * hits ns k t) = sumN n (fun k => hit m s (k : Int) * hits ns k t) + sumN n (fun k => hits ms s (k : Int) * hits ns k t) := by
      rw [← sumN_add]
      exact sumN_congr (fun k _ => by rw [hits_cons, Int.add_mul])
    have e2 : sumN n (fun k => hit m s (k : Int) * hits ns k t) = hit m s (j : Int) * hits ns j t := sumN_one hjn (fun k _ hk => by
      unfold hit
      rw [e0, hj, if_neg (by omega), Int.zero_mul])
    rw [e1, e2]
    congr 1
    unfold hit
    rw [e0, hj, if_pos rfl]
    rfl
def mulC (n : Nat) (a b : List (List Int)) : List (List Int) := (List.range n).map fun s => (List.range n).map fun t => sumN n fun k => (a.getD s []).getD k 0 * (b.getD k []).getD t 0
theorem chain_at {n s t : Nat} (hs : s < n) (ht : t < n) (ms : List (Int × List Int)) : ((chainM n ms).getD s []).getD t 0 = hits ms s (t : Int) := by
  unfold chainM
  rw [List.getD_eq_getElem?_getD, List.getD_eq_getElem?_getD, List.getElem?_map, List.getElem?_range hs]
  show (((List.range n).map fun (t : Nat) => hits ms s (t : Int))[t]?).getD 0 = _
  rw [List.getElem?_map, List.getElem?_range ht]; rfl
theorem then_chain {n : Nat} {ms ns : List (Int × List Int)} (h : ∀ m ∈ ms, m.2.length = n ∧ ∀ x ∈ m.2, 0 ≤ x ∧ x < (n : Int)) : chainM n (thenM ms ns) = mulC n (chainM n ms) (chainM n ns) := by
  unfold mulC
  show (List.range n).map _ = _
  refine List.map_congr_left (fun s hs => List.map_congr_left (fun t ht => ?_))
  rw [List.mem_range] at hs ht
  rw [then_hits hs _ ns ms h]
  exact sumN_congr (fun k hk => by rw [chain_at hs hk, chain_at hk ht])
theorem then_len (ns : List (Int × List Int)) : ∀ ms : List (Int × List Int), (thenM ms ns).length = ms.length * ns.length
  | [] => by simp [thenM]
  | m :: ms => by
    have := then_len ns ms
    unfold thenM at *
    rw [List.flatMap_cons, List.length_append, List.length_map, this, List.length_cons, Nat.add_mul]; omega
theorem then_sum1 (x : Int × List Int) : ∀ ns : List (Int × List Int), sumM (ns.map (thenOne x)) = x.1 * sumM ns
  | [] => by simp [sumM]
  | y :: ns => by
    have := then_sum1 x ns
    unfold sumM at *
    rw [List.map_cons, List.map_cons, List.sum_cons, this, List.map_cons, List.sum_cons, Int.mul_add]; rfl
theorem then_sum (ns : List (Int × List Int)) : ∀ ms : List (Int × List Int), sumM (thenM ms ns) = sumM ms * sumM ns
  | [] => by simp [thenM, sumM]
  | m :: ms => by
    have h := then_sum ns ms
    have h1 := then_sum1 m ns
    unfold thenM at *
    rw [List.flatMap_cons]
    have e : ∀ a b : List (Int × List Int), sumM (a ++ b) = sumM a + sumM b := fun a b => by unfold sumM; rw [List.map_append, List.sum_append]
    rw [e, h, h1]
    unfold sumM
    rw [List.map_cons, List.sum_cons, Int.add_mul]
theorem then_ok {n : Nat} {t u : Int} {ms ns : List (Int × List Int)} (h : mapsOk n t ms) (h2 : mapsOk n u ns) (ht : t * u ≤ 60) (hl : ms.length * ns.length ≤ 60) : mapsOk n (t * u) (thenM ms ns) := by
  obtain ⟨a1, b1, c1, d1, e1⟩ := h
  obtain ⟨_, b2, c2, d2, e2⟩ := h2
  refine ⟨a1, ⟨?_, ht⟩, ⟨?_, ?_⟩, ?_, ?_⟩
  · have := Int.mul_le_mul b1.1 b2.1 (by omega) (by omega); omega
  · rw [then_len]; exact Nat.mul_le_mul c1.1 c2.1
  · rw [then_len]; exact hl
  · intro m hm
    unfold thenM at hm
    rw [List.mem_flatMap] at hm
    obtain ⟨x, hx, hm⟩ := hm
    rw [List.mem_map] at hm
    obtain ⟨y, hy, rfl⟩ := hm
    have k1 := d1 x hx
    have k2 := d2 y hy
    refine ⟨?_, ?_, ?_⟩
    · have := Int.mul_le_mul k1.1 k2.1 (by omega) (by omega)
      show 1 ≤ x.1 * y.1
      omega
    · show ((x.2.map _).length : Int) = _
      rw [List.length_map]; exact k1.2.1
    · intro z hz
      have hz : z ∈ x.2.map fun k => y.2.getD k.toNat 0 := hz
      rw [List.mem_map] at hz
      obtain ⟨k, hk, rfl⟩ := hz
      have hb := k1.2.2 k hk
      have hkl : k.toNat < y.2.length := by have := k2.2.1; omega
      rw [List.getD_eq_getElem?_getD, List.getElem?_eq_getElem hkl]
      exact k2.2.2 _ (List.getElem_mem hkl)
  · have := then_sum ns ms
    unfold sumM at this
    rw [this, e1, e2]
end Go.Proofs.Ytceobhmbnkheiaa
namespace Go.Proofs.Ytceobhmbnkheiaa
open Go.RowKit Go.Sort
theorem sumN_split (f : Nat → Int) (a : Nat) : ∀ b, sumN (a + b) f = sumN a f + sumN b (fun i => f (a + i))
  | 0 => by rw [Nat.add_zero, sumN_zero]; omega
  | b + 1 => by rw [← Nat.add_assoc, sumN_succ, sumN_succ, sumN_split f a b]; omega
theorem sumN_const (c : Int) : ∀ n, sumN n (fun _ => c) = n * c
  | 0 => by simp [sumN_zero]
  | n + 1 => by rw [sumN_succ, sumN_const c n]; push_cast; rw [Int.add_mul]; omega
theorem sumN_nonneg {f : Nat → Int} : ∀ {n}, (∀ k, k < n → 0 ≤ f k) → 0 ≤ sumN n f
  | 0, _ => by rw [sumN_zero]; omega
  | n + 1, h => by
    have := sumN_nonneg (n := n) (fun k hk => h k (by omega))
    have := h n (by omega)
    rw [sumN_succ]; omega
theorem sumN_ge {f : Nat → Int} {n j : Nat} (hj : j < n) (h : ∀ k, k < n → 0 ≤ f k) : f j ≤ sumN n f := by
  induction n with
  | zero => omega
  | succ n ih =>
    rw [sumN_succ]
    have h0 := sumN_nonneg (n := n) (fun k hk => h k (by omega))
    have h1 := h n (by omega)
    by_cases e : j = n
    · subst e; omega
    · have := ih (by omega) (fun k hk => h k (by omega)); omega
theorem toFrom_ge : ∀ {r : List Int} {d q : Int} {k i : Nat}, toFrom r d q k = some i → k ≤ i
  | [], _, _, _, _, h => by simp [toFrom] at h
  | x :: r, d, q, k, i, h => by
    unfold toFrom at h
    by_cases e : d < q + x
    · rw [if_pos e] at h; simp at h; omega
    · rw [if_neg e] at h
      have := toFrom_ge h; omega
theorem list_sum_nonneg : ∀ {r : List Int}, (∀ x ∈ r, 0 ≤ x) → 0 ≤ r.sum
  | [], _ => by simp
  | x :: r, h => by
    have := list_sum_nonneg (r := r) (fun y hy => h y (by simp [hy]))
    have := h x (by simp)
    rw [List.sum_cons]; omega
theorem toFrom_count : ∀ (r : List Int) (q : Int) (k j : Nat), (∀ x ∈ r, 0 ≤ x) → sumN r.sum.toNat (fun d => if toFrom r (q + d) q k = some (k + j) then 1 else 0) = r.getD j 0
  | [], _, _, j, _ => by simp [sumN_zero]
  | x :: r, q, k, j, h => by
    have hx := h x (by simp)
    have hr := list_sum_nonneg (r := r) (fun y hy => h y (by simp [hy]))
    obtain ⟨a, rfl⟩ := Int.eq_ofNat_of_zero_le hx
    have es : ((a : Int) :: r).sum.toNat = a + r.sum.toNat := by rw [List.sum_cons]; omega
    rw [es, sumN_split]
    have e2 : sumN r.sum.toNat (fun i => if toFrom ((a : Int) :: r) (q + ((a + i : Nat) : Int)) q k = some (k + j) then (1 : Int) else 0) = sumN r.sum.toNat (fun i => if toFrom r ((q + a) + (i : Int)) (q + a) (k + 1) = some (k + j) then 1 else 0) := sumN_congr (fun i _ => by
      rw [show toFrom ((a : Int) :: r) (q + ((a + i : Nat) : Int)) q k = toFrom r (q + ((a + i : Nat) : Int)) (q + a) (k + 1) from by
        show (if _ then _ else _) = _
        rw [if_neg (by omega)]]
      rw [show q + ((a + i : Nat) : Int) = (q + a) + (i : Int) by omega])
    rw [e2]
    cases j with
    | zero =>
      rw [sumN_congr (n := a) (g := fun _ => 1) (fun i hi => by
        show (if toFrom ((a : Int) :: r) (q + (i : Int)) q k = some (k + 0) then (1 : Int) else 0) = 1
        rw [show toFrom ((a : Int) :: r) (q + (i : Int)) q k = some k from by
          show (if _ then _ else _) = _
          rw [if_pos (by omega)]]
        simp), sumN_const, sumN_none (fun i _ => by
          rw [if_neg]
          intro e
          have := toFrom_ge e; omega)]
      simp
    | succ j =>
      rw [sumN_none (n := a) (fun i hi => by
        show (if toFrom ((a : Int) :: r) (q + (i : Int)) q k = some (k + (j + 1)) then (1 : Int) else 0) = 0
        rw [show toFrom ((a : Int) :: r) (q + (i : Int)) q k = some k from by
          show (if _ then _ else _) = _
          rw [if_pos (by omega)]]
        rw [if_neg (by simp)])]
      have ih := toFrom_count r (q + a) (k + 1) j (fun y hy => h y (by simp [hy]))
      rw [show k + (j + 1) = k + 1 + j by omega, ih]
      simp
def stepI (r : List Int) (d : Int) : Int := ((toOf r d).map Int.ofNat).getD 0
theorem stepI_some {r : List Int} {d : Int} (h : ∀ x ∈ r, 0 ≤ x) (hn : r ≠ []) (hd : d < r.sum) : ∃ i, toOf r d = some i ∧ i < r.length ∧ stepI r d = i := by
  obtain ⟨i, h1, _, h3⟩ := toFrom_lt r d 0 0 (by omega) hn h
  refine ⟨i, h1, by omega, ?_⟩
  unfold stepI toOf
  rw [h1]; rfl
theorem stepI_count {r : List Int} (h : ∀ x ∈ r, 0 ≤ x) (hn : r ≠ []) (t : Nat) : sumN r.sum.toNat (fun d => if stepI r (d : Int) = (t : Int) then 1 else 0) = r.getD t 0 := by
  rw [← toFrom_count r 0 0 t h]
  refine sumN_congr (fun d hd => ?_)
  obtain ⟨i, h1, _, h3⟩ := stepI_some (d := (d : Int)) h hn (by omega)
  rw [h3]
  unfold toOf at h1
  rw [Int.zero_add, h1]
  by_cases e : i = t
  · subst e; simp
  · rw [if_neg (by omega), if_neg (by simp; omega)]
/-- the maps of all draws -/
def drawsM (n T : Nat) (rows : List (List Int)) : List (Int × List Int) := (List.range T).map fun (d : Nat) => ((1 : Int), (List.range n).map fun s => stepI (rows.getD s []) (d : Int))
theorem draws_hits {n T s : Nat} {rows : List (List Int)} (hs : s < n) (h : ∀ x ∈ rows.getD s [], 0 ≤ x) (hn : rows.getD s [] ≠ []) (hT : (rows.getD s []).sum = T) (t : Nat) : hits (drawsM n T rows) s (t : Int) = (rows.getD s []).getD t 0 := by
  have hc := stepI_count h hn t
  rw [hT, Int.toNat_natCast] at hc
  rw [← hc]
  unfold hits drawsM sumN
  rw [List.map_map]
  congr 1
  refine List.map_congr_left (fun d _ => ?_)
  show (if ((List.range n).map fun s => stepI (rows.getD s []) (d : Int)).getD s 0 = (t : Int) then (1 : Int) else 0) = _
  rw [List.getD_eq_getElem?_getD, List.getElem?_map, List.getElem?_range hs]
  rfl
theorem hits_sum {n s : Nat} : ∀ {ms : List (Int × List Int)}, (∀ m ∈ ms, s < m.2.length ∧ ∀ x ∈ m.2, 0 ≤ x ∧ x < (n : Int)) → sumN n (fun t => hits ms s (t : Int)) = sumM ms
  | [], _ => by rw [sumN_none (fun k _ => hits_nil _ _)]; rfl
  | m :: ms, h => by
    have hm := h m (by simp)
    have hx := hm.2 _ (List.getElem_mem hm.1)
    obtain ⟨j, hj⟩ := Int.eq_ofNat_of_zero_le hx.1
    have e0 : m.2.getD s 0 = m.2[s]'hm.1 := by rw [List.getD_eq_getElem?_getD, List.getElem?_eq_getElem hm.1]; rfl
    rw [sumN_congr (fun k _ => hits_cons m ms s (k : Int)), sumN_add, hits_sum (fun x hx => h x (by simp [hx])), sumN_one (j := j) (by omega) (fun k _ hk => by
      unfold hit
      rw [e0, hj, if_neg (by omega)])]
    unfold hit
    rw [e0, hj, if_pos rfl]
    simp [sumM]
theorem hits_nonneg {s : Nat} {t : Int} : ∀ {ms : List (Int × List Int)}, (∀ m ∈ ms, 0 ≤ m.1) → 0 ≤ hits ms s t
  | [], _ => by rw [hits_nil]; omega
  | m :: ms, h => by
    have h1 := h m (by simp)
    have h2 := hits_nonneg (s := s) (t := t) (ms := ms) (fun x hx => h x (by simp [hx]))
    rw [hits_cons]
    unfold hit
    by_cases e : m.2.getD s 0 = t
    · rw [if_pos e]; omega
    · rw [if_neg e]; omega
theorem chain_rows {n : Nat} {t : Int} {ms : List (Int × List Int)} (h : mapsOk n t ms) {s : Nat} (hs : s < n) : ((chainM n ms).getD s []).length = n ∧ (∀ x ∈ (chainM n ms).getD s [], 0 ≤ x ∧ x ≤ t) ∧ ((chainM n ms).getD s []).sum = t := by
  obtain ⟨_, _, _, hrow, hsum⟩ := h
  have e : (chainM n ms).getD s [] = (List.range n).map fun (t : Nat) => hits ms s (t : Int) := by
    unfold chainM
    rw [List.getD_eq_getElem?_getD, List.getElem?_map, List.getElem?_range hs]; rfl
  have hs2 : sumN n (fun t => hits ms s (t : Int)) = t := (hits_sum (fun m hm => ⟨by have := (hrow m hm).2.1; omega, (hrow m hm).2.2⟩)).trans hsum
  rw [e]
  refine ⟨by simp, fun x hx => ?_, hs2⟩
  rw [List.mem_map] at hx
  obtain ⟨k, hk, rfl⟩ := hx
  rw [List.mem_range] at hk
  have hnn : ∀ u : Int, 0 ≤ hits ms s u := fun u => hits_nonneg (fun m hm => by have := (hrow m hm).1; omega)
  refine ⟨hnn _, ?_⟩
  rw [← hs2]
  exact sumN_ge (f := fun t => hits ms s (t : Int)) hk (fun k _ => hnn _)
theorem chainM_len (n : Nat) (ms : List (Int × List Int)) : (chainM n ms).length = n := by simp [chainM]
theorem chain_ok {n : Nat} {t : Int} {ms : List (Int × List Int)} (h : mapsOk n t ms) : chainOk n t (chainM n ms) = true := by
  obtain ⟨a, b, _⟩ := id h
  unfold chainOk
  rw [Bool.and_eq_true, Bool.and_eq_true, Bool.and_eq_true]
  refine ⟨inR_iff.2 a, inR_iff.2 b, by rw [chainM_len]; simp, ?_⟩
  unfold rowsOk
  rw [List.all_eq_true]
  intro r hr
  rw [List.mem_iff_getElem] at hr
  obtain ⟨s, hs, rfl⟩ := hr
  have hs' : s < n := by rw [chainM_len] at hs; exact hs
  have e : (chainM n ms)[s] = (chainM n ms).getD s [] := by rw [List.getD_eq_getElem?_getD, List.getElem?_eq_getElem hs]; rfl
  obtain ⟨h1, h2, h3⟩ := chain_rows h hs'
  rw [e]
  unfold rowOk
  rw [Bool.and_eq_true, Bool.and_eq_true]
  refine ⟨by simp only [decide_eq_true_eq]; omega, ?_, by simp only [decide_eq_true_eq]; exact h3⟩
  unfold inAll
  rw [List.all_eq_true]
  exact fun x hx => inR_iff.2 (h2 x hx)
theorem draws_ok {n T : Nat} {ms : List (Int × List Int)} (h : mapsOk n T ms) : mapsOk n T (drawsM n T (chainM n ms)) := by
  obtain ⟨a, b, _, _, _⟩ := id h
  refine ⟨a, b, ?_, ?_, ?_⟩
  · unfold drawsM; rw [List.length_map, List.length_range]; omega
  · intro m hm
    unfold drawsM at hm
    rw [List.mem_map] at hm
    obtain ⟨d, hd, rfl⟩ := hm
    rw [List.mem_range] at hd
    refine ⟨Int.le_refl _, by simp, fun x hx => ?_⟩
    have hx : x ∈ (List.range n).map fun s => stepI ((chainM n ms).getD s []) (d : Int) := hx
    rw [List.mem_map] at hx
    obtain ⟨s, hs, rfl⟩ := hx
    rw [List.mem_range] at hs
    obtain ⟨h1, h2, h3⟩ := chain_rows h hs
    obtain ⟨i, _, hi, he⟩ := stepI_some (d := (d : Int)) (fun x hx => (h2 x hx).1) (by intro e; rw [e] at h1; simp at h1; omega) (by omega)
    rw [he]; omega
  · have : ∀ k : Nat, (((List.range k).map fun (d : Nat) => ((1 : Int), (List.range n).map fun s => stepI ((chainM n ms).getD s []) (d : Int))).map (·.1)).sum = (k : Int) := by
      intro k
      induction k with
      | zero => rfl
      | succ k ih => rw [List.range_succ, List.map_append, List.map_append, List.sum_append, ih]; simp
    exact this T
/-- the maps of all draws have the chances of the chain -/
theorem draws_chain {n T : Nat} {ms : List (Int × List Int)} (h : mapsOk n T ms) : chainM n (drawsM n T (chainM n ms)) = chainM n ms := by
  show (List.range n).map _ = (List.range n).map _
  refine List.map_congr_left (fun s hs => List.map_congr_left (fun t ht => ?_))
  rw [List.mem_range] at hs ht
  obtain ⟨h1, h2, h3⟩ := chain_rows h hs
  rw [draws_hits hs (fun x hx => (h2 x hx).1) (by intro e; rw [e] at h1; simp at h1; omega) h3, chain_at hs ht]
end Go.Proofs.Ytceobhmbnkheiaa
