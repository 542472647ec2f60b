/-
  Maps (a weight and where each state goes): lists of them read, owned, grown; which are valid. With it: What the laws draw: one of some numbers, rows of weights, picks, draws.
-/
import Derived.Test.YtceobhmbnkheiaaZRowFnSandwich10
import Derived.Test.YtceobhmbnkheiaaZRowFnSandwich7
import Derived.Test.YtceobhmbnkheiaaZRowFnSandwich3
import Derived.Test.YtceobhmbnkheiaaZRowFnSandwich4
set_option linter.unusedVariables false
set_option linter.unusedSimpArgs false
namespace Go.Proofs.Ytceobhmbnkheiaa
open Go.RowKit Go.Sort
theorem sum_set {n : Int} : ∀ {r : List Int} {z : Nat} (h : z < r.length), (r.set z (r[z] + n)).sum = r.sum + n
  | [], _, h => by simp at h
  | x :: r, 0, _ => by simp; omega
  | x :: r, z + 1, h => by
    have ih := sum_set (n := n) (r := r) (z := z) (by simpa using h)
    simp only [List.set_cons_succ, List.sum_cons, List.getElem_cons_succ]
    omega

set_option maxHeartbeats 2000000 in
theorem P6Draws_any {xs : List Int} (ad : Option Addr) (n c t most : Nat) (w : World) (hn : n ≤ 4096) (hx : xs.length = n) (hr : Rd w ad (xs.map (.int .u8))) (hb : ∀ x ∈ xs, 0 ≤ x ∧ x < 256) (ht : 1 ≤ t) (hmo : most ≤ 100) :
    Calls Try.prog 10 #[.slice ad n c, .int .i64 t, .int .i64 most] w fun e w' => ∃ (v : Value) (ds : List Int), e = .returned v ∧ DrawsB t ds ∧ ds.length ≤ most ∧ OwnI w' w.heap.size v ds ∧ Below w.heap.size w w' := by
  have HR := Lib.hid hr
  have HB := Lib.hid hb
  have HX := Lib.hid hx
  clear hr hb hx
  go_enter Try.func10, Try.ntmps10
  go_wp2_with fail
  refine (l00From_any ad n c _ hn HX.out HR.out HB.out).mono ?_
  rintro e w1 ⟨rfl, s1, b1⟩
  have hz1 := s1.lt
  have own0 := Lib.hid (OwnI.empty w1 (base := w1.heap.size) (Nat.le_refl _))
  have s2 := Lib.hid (s1.below ((Below.refl w1.heap.size w1).alloc (Nat.le_refl _) (.cells #[] 2)))
  have f2 := Lib.hid (Fs.of_below (S := fun k => k = w.heap.size) ((Below.refl w1.heap.size w1).alloc (Nat.le_refl _) (.cells #[] 2)))
  have B1 := Lib.hid b1
  have r1 : IntKind.i64.wrap ((most : Int) + 1) = ((most + 1 : Nat) : Int) := by rw [IntWalk.i64_in _ (by omega)]; simp
  clear s1 b1
  go_wp2_with fail
  refine (pick_any w.heap.size 0 ((most + 1 : Nat) : Int) _ s2.out (by omega)).mono ?_
  rintro e w3 ⟨y, rfl, hy0, hy1, s3, f3⟩
  obtain ⟨y, rfl⟩ := Int.eq_ofNat_of_zero_le hy0
  have hym : y ≤ most := by omega
  have o3 := Lib.hid (own0.out.fs f3 (fun k hk => by omega))
  have F3 := Lib.hid (f2.out.trans f3)
  have S3 := Lib.hid s3
  clear hy0 hy1 s3 f3
  go_wp2
  go_loopw [8, 9] (fun v i wr => ∃ (q : Nat) (ds : List Int), q ≤ y ∧ i = .int .i64 q ∧ ds.length + q = y ∧ DrawsB t ds ∧ OwnI wr w1.heap.size v ds ∧ SrcB wr w.heap.size (2 + 2 * ds.length) ∧ Fs (fun k => k = w.heap.size) w1 wr) (fun _ i _ => (intOf i).toNat)
  case atStart => exact ⟨y, [], Nat.le_refl _, rfl, by simp, by intro d hd; simp at hd, o3.out, S3.out, F3.out⟩
  case round =>
    clear o3 S3 F3
    obtain ⟨q, ds, hq, rfl, hql, hdb, hown, hsrc, hf⟩ := hrel
    have HDB := Lib.hid hdb
    have HO := Lib.hid hown
    have HF := Lib.hid hf
    clear hdb hown hf
    by_cases hq0 : 0 < q
    · have i0 : (0 : Int) < (q : Int) := by omega
      go_wp2_with fail
      refine (pick_any w.heap.size _ t _ hsrc (by omega)).mono ?_
      rintro e w4 ⟨d, rfl, hd0, hd1, s4, f4⟩
      have o4 := HO.out.fs f4 (fun k hk => by omega)
      have F4 := Lib.hid (HF.out.trans f4)
      have S4 := Lib.hid s4
      have hz4 : w1.heap.size ≤ w4.heap.size := F4.out.size
      have hln : ds.length < 16777216 := by omega
      have r3 : IntKind.i64.wrap ((q : Int) - 1) = ((q - 1 : Nat) : Int) := by rw [IntWalk.i64_in _ (by omega)]; omega
      clear s4 f4 hsrc
      go_wp2_with (at_builtin; refine append_i64 _ d _ _ rfl rfl rfl o4 rfl hln hz4 ?_)
      intro v5 w5 o5 b5 z5
      have hb5 : Below w1.heap.size w4 w5 := ((Below.refl w1.heap.size w4).alloc hz4 _).trans b5
      have F5 := Lib.hid (show Fs (fun k => k = w.heap.size) w1 w5 from ⟨hb5.os.trans F4.out.os, hb5.tape.trans F4.out.tape, hb5.output.trans F4.out.output, Nat.le_trans F4.out.size hb5.size, fun k hk hx => (hb5.block k hk).trans (F4.out.block k hk hx)⟩)
      have S5 := Lib.hid (S4.out.fs (S := fun k => w1.heap.size ≤ k) (w' := w5) ⟨hb5.os, hb5.tape, hb5.output, hb5.size, fun k hk hx => hb5.block k (by omega)⟩ (fun k hk => by omega))
      clear b5 hb5
      go_wp2
      go_roundw
      case rel => exact ⟨q - 1, ds ++ [d], by omega, by go_num, by simp; omega, fun x hx => by
        simp only [List.mem_append, List.mem_singleton] at hx
        rcases hx with hx | rfl
        · exact HDB.out x hx
        · omega, o5, S5.out.more (by simp; omega), F5.out⟩
      case measure => simp [intOf]; omega
    · obtain rfl : q = 0 := by omega
      go_wp2
      go_ret
      exact ⟨_, ds, rfl, HDB.out, by omega, HO.out.lower B1.out.size, B1.out.trans (HF.out.below (B := w.heap.size) B1.out.size (fun k hk => by omega))⟩
end Go.Proofs.Ytceobhmbnkheiaa
namespace Go.Proofs.Ytceobhmbnkheiaa
open Go.RowKit Go.Sort
def RowV := {v : Value // v.oneCell' = true}
def encM (x : Int × RowV) : List Value := [.int .i64 x.1, x.2.1]
theorem encM_one (x : Int × RowV) (u : Value) (h : u ∈ encM x) : u.oneCell' = true := by
  simp [encM] at h
  rcases h with rfl | rfl
  · rfl
  · exact x.2.2

def FM : Flat (Int × RowV) := ⟨24, 43, .agg #[.int .i64 0, .slice none 0 0], 2, 32, encM, Try.underlying24, by kernel_rfl, rfl, by decide, by decide, fun _ => rfl, encM_one⟩
def PairM (P : Value → List Int → Prop) (us : List (Int × RowV)) (ms : List (Int × List Int)) : Prop :=
  us.length = ms.length ∧ ∀ (i : Nat) (u : Int × RowV) (m : Int × List Int), us[i]? = some u → ms[i]? = some m → u.1 = m.1 ∧ P u.2.1 m.2
def SlM (w : World) (v : Value) (ms : List (Int × List Int)) : Prop := ∃ us, FM.Sl w v us ∧ PairM (SlI w) us ms
def OwnM (w : World) (base : Nat) (v : Value) (ms : List (Int × List Int)) : Prop := ∃ us, FM.Own w base v us ∧ PairM (OwnI w base) us ms
theorem PairM.imp {P Q : Value → List Int → Prop} {us : List (Int × RowV)} {ms : List (Int × List Int)} (h : PairM P us ms) (hpq : ∀ v xs, P v xs → Q v xs) : PairM Q us ms :=
  ⟨h.1, fun i u m hu hm => ⟨(h.2 i u m hu hm).1, hpq _ _ (h.2 i u m hu hm).2⟩⟩
theorem SlM.below {w w' : World} {v : Value} {ms : List (Int × List Int)} (h : SlM w v ms) (hb : Below w.heap.size w w') : SlM w' v ms := by
  obtain ⟨us, h1, h2⟩ := h
  exact ⟨us, h1.below hb, h2.imp (fun v xs h => h.below hb)⟩
theorem OwnM.below {w w' : World} {base : Nat} {v : Value} {ms : List (Int × List Int)} (h : OwnM w base v ms) (hb : Below w.heap.size w w') : OwnM w' base v ms := by
  obtain ⟨us, h1, h2⟩ := h
  exact ⟨us, h1.below hb, h2.imp (fun v xs h => h.below hb)⟩
theorem OwnM.lower {w : World} {base base' : Nat} {v : Value} {ms : List (Int × List Int)} (h : OwnM w base v ms) (hb : base' ≤ base) : OwnM w base' v ms := by
  obtain ⟨us, h1, h2⟩ := h
  exact ⟨us, h1.lower hb, h2.imp (fun v xs h => h.lower hb)⟩
theorem OwnM.sl {w : World} {base : Nat} {v : Value} {ms : List (Int × List Int)} (h : OwnM w base v ms) : SlM w v ms := by
  obtain ⟨us, h1, h2⟩ := h
  exact ⟨us, h1.sl, h2.imp (fun v xs h => h.sl)⟩
theorem OwnM.nil (w : World) (base : Nat) : OwnM w base (.slice none 0 0) [] := ⟨[], Flat.Own.nil _ _, rfl, by intro i u m h; simp at h⟩
theorem flat_fs {α : Type} {F : Flat α} {w w' : World} {base : Nat} {v : Value} {xs : List α} {S : Nat → Prop} (h : F.Own w base v xs) (hf : Fs S w w') (hS : ∀ k, S k → k < base) : F.Own w' base v xs := by
  refine ⟨h.1, ?_⟩
  rcases h.2 with h2 | ⟨g, c, cur, h1, h2, h3, h4⟩
  · exact .inl h2
  · refine .inr ⟨g, c, cur, h1, h2, ?_, h4⟩
    rw [hf.block g (Array.getElem?_eq_some_iff.1 h3).1 (fun hx => by have := hS g hx; omega)]; exact h3
theorem OwnM.fs {w w' : World} {base : Nat} {v : Value} {ms : List (Int × List Int)} {S : Nat → Prop} (h : OwnM w base v ms) (hf : Fs S w w') (hS : ∀ k, S k → k < base) : OwnM w' base v ms := by
  obtain ⟨us, h1, h2⟩ := h
  exact ⟨us, flat_fs h1 hf hS, h2.imp (fun v xs h => h.fs hf hS)⟩
theorem SlM.form {w : World} {v : Value} {ms : List (Int × List Int)} (h : SlM w v ms) : ∃ ad c, v = .slice ad ms.length c ∧ ms.length ≤ c ∧ c ≤ maxLen := by
  obtain ⟨us, ⟨ad, c, h1, h2, h3, _⟩, h4, _⟩ := h
  exact ⟨ad, c, by rw [← h4]; exact h1, by rw [← h4]; exact h2, h3⟩
theorem SlM.at_ {w : World} {ad : Option Addr} {n c : Nat} {ms : List (Int × List Int)} (h : SlM w (.slice ad n c) ms) {i : Nat} (hi : i < ms.length) :
    ∃ b off ra rc, ad = some ⟨b, off, none⟩ ∧ b < w.heap.size ∧ w.cell? ⟨b, off + i * 2, none⟩ = some (.int .i64 ms[i].1) ∧ w.cell? ⟨b, off + i * 2 + 1, none⟩ = some (.slice ra ms[i].2.length rc) ∧ SlI w (.slice ra ms[i].2.length rc) ms[i].2 := by
  obtain ⟨us, h1, h2, h3⟩ := h
  have hu : i < us.length := by omega
  obtain ⟨b, off, h4, h5, h6⟩ := h1.at_ hu
  obtain ⟨e1, e2⟩ := h3 i us[i] ms[i] (List.getElem?_eq_getElem hu) (List.getElem?_eq_getElem hi)
  obtain ⟨ra, rc, e3, e4, e5, e6⟩ := e2
  have k0 := h6 0 (.int .i64 us[i].1) rfl
  have k1 := h6 1 us[i].2.1 rfl
  rw [e1, show off + (i * FM.size + 0) = off + i * 2 from by show off + (i * 2 + 0) = _; omega] at k0
  rw [e3, show off + (i * FM.size + 1) = off + i * 2 + 1 from by show off + (i * 2 + 1) = _; omega] at k1
  exact ⟨b, off, ra, rc, h4, h5, k0, k1, ra, rc, rfl, e4, e5, e6⟩
/-- an int row's block is no block of maps -/
theorem OwnI.apartM {w : World} {base base' : Nat} {u v : Value} {xs : List Int} {us : List (Int × RowV)} (h : OwnI w base u xs) (h2 : FM.Own w base' v us) {g : Nat} (hu : u.ownBlock = some g) : v.ownBlock ≠ some g := by
  intro hv
  rcases h.2 with ⟨rfl, _⟩ | ⟨g1, c1, cur1, rfl, _, k1, _⟩
  · simp [Value.ownBlock] at hu
  · rcases h2.2 with ⟨rfl, _⟩ | ⟨g2, c2, cur2, rfl, _, k2, _⟩
    · simp [Value.ownBlock] at hv
    · simp [Value.ownBlock] at hu hv
      subst hu
      subst hv
      rw [k1] at k2
      simp [FM] at k2
/-- append(v, Map{y, u}) on owned maps -/
theorem append_map {ops : Array Oper} {rest : List Oper} {o : Oper} {a : Act} {Q : Exit → Act → World → Prop} (w : World) (s x : Operand) (hg : o.guard = none)
    (ho : o.op = .call { callee := .builtin .append, args := #[s, x], argTypes := #[24, 24] })
    {base : Nat} {v u : Value} {ms : List (Int × List Int)} {y : Int} {xs : List Int} (hs : a.eval s = v) (hown : OwnM w base v ms) (hu : OwnI w base u xs) {t g0 : Nat} (hg0 : w.heap.size = g0) (hx : a.eval x = .slice (some ⟨g0, 0, none⟩) 1 1)
    (hlen : ms.length < 16777216) (hbase : base ≤ w.heap.size)
    (h : ∀ v' w', OwnM w' base v' (ms ++ [(y, xs)]) → Below base (w.alloc (.cells #[.int .i64 y, u] t)) w' → w.heap.size < w'.heap.size → wpList Try.prog ops Q rest (a.put o.dst v') w') : wpList Try.prog ops Q (o :: rest) a (w.alloc (.cells #[.int .i64 y, u] t)) := by
  subst hg0
  obtain ⟨us, h1, h2⟩ := hown
  have hu1 : u.oneCell' = true := by
    rcases hu.2 with ⟨rfl, _⟩ | ⟨g, c, cur, rfl, _⟩ <;> rfl
  have bx : Below w.heap.size w (w.alloc (.cells #[.int .i64 y, u] t)) := (Below.refl _ _).alloc (Nat.le_refl _) _
  have h1' := h1.below bx
  have hu' := hu.below bx
  refine Flat.append FM _ s x hg ho (ys := [(y, ⟨u, hu1⟩)]) hs h1' hx (rd_new w #[.int .i64 y, u] t) (by rw [h2.1]; simp; omega) (by simp; omega) (fun v' w' k1 k2 k3 => ?_)
  have key : ∀ (v0 : Value) (zs : List Int), OwnI (w.alloc (.cells #[.int .i64 y, u] t)) base v0 zs → OwnI w' base v0 zs := fun v0 zs ho => ho.kept k2 (by
    cases hb : v0.ownBlock with
    | none => exact .inl rfl
    | some g => exact .inr (Ne.symm (ho.apartM h1' hb)))
  refine h v' w' ⟨_, k1, by simp [h2.1], fun i u0 m hi hm => ?_⟩ k3 (by have := k3.size; have := k2.size; simp at this; omega)
  have hul := h2.1
  by_cases hlt : i < us.length
  · rw [List.getElem?_append_left hlt] at hi
    rw [List.getElem?_append_left (by rw [← h2.1]; exact hlt)] at hm
    obtain ⟨e1, e2⟩ := h2.2 i u0 m hi hm
    exact ⟨e1, key _ _ (e2.below bx)⟩
  · rw [List.getElem?_append_right (by omega)] at hi hm
    have h0 : i - us.length = 0 := by
      rcases Nat.eq_zero_or_pos (i - us.length) with e | e
      · exact e
      · rw [List.getElem?_eq_none (by simp; omega)] at hi; simp at hi
    rw [h0] at hi
    rw [← h2.1, h0] at hm
    simp at hi hm
    subst hi hm
    exact ⟨rfl, key _ _ hu'⟩
/-- valid maps -/
def rowOkM (s : Int) (r : List Int) : Bool := decide ((r.length : Int) = s) && r.all (fun x => decide (0 ≤ x) && decide (x < s))
def mapsOk (s t : Int) (ms : List (Int × List Int)) : Prop :=
  (1 ≤ s ∧ s ≤ 6) ∧ (1 ≤ t ∧ t ≤ 60) ∧ (1 ≤ ms.length ∧ ms.length ≤ 60) ∧ (∀ m ∈ ms, 1 ≤ m.1 ∧ (m.2.length : Int) = s ∧ ∀ x ∈ m.2, 0 ≤ x ∧ x < s) ∧ (ms.map (·.1)).sum = t
/-- where a state goes by a map -/
def goM (ms : List (Int × List Int)) (p x : Int) : Int := ((ms.getD p.toNat (0, [])).2).getD x.toNat 0
def byM (ms : List (Int × List Int)) (st : List Int) (p : Int) : List Int := st.map (goM ms p)
def sumW (ms : List (Int × List Int)) (k : Nat) : Int := ((ms.take k).map (·.1)).sum
theorem sumW_succ {ms : List (Int × List Int)} {k : Nat} (h : k < ms.length) : sumW ms (k + 1) = sumW ms k + ms[k].1 := by
  unfold sumW
  rw [List.take_succ_eq_append_getElem h, List.map_append, List.sum_append]; simp
theorem sumW_all (ms : List (Int × List Int)) : sumW ms ms.length = (ms.map (·.1)).sum := by unfold sumW; rw [List.take_length]
theorem sum_le_of_nonneg : ∀ {l : List Int}, (∀ x ∈ l, 0 ≤ x) → 0 ≤ l.sum
  | [], _ => by simp
  | x :: l, h => by
    have h1 := h x (by simp)
    have h2 := sum_le_of_nonneg (l := l) (fun y hy => h y (by simp [hy]))
    simp; omega
theorem mapsOk.sums {s t : Int} {ms : List (Int × List Int)} (h : mapsOk s t ms) {k : Nat} (hk : k ≤ ms.length) : 0 ≤ sumW ms k ∧ sumW ms k ≤ t := by
  obtain ⟨_, _, _, h4, h5⟩ := h
  have e : (ms.map (·.1)).sum = sumW ms k + ((ms.drop k).map (·.1)).sum := by
    unfold sumW
    rw [← List.sum_append, ← List.map_append, List.take_append_drop]
  have n1 : 0 ≤ sumW ms k := sum_le_of_nonneg (fun x hx => by
    rw [List.mem_map] at hx
    obtain ⟨m, hm, rfl⟩ := hx
    have := h4 m (List.mem_of_mem_take hm); omega)
  have n2 : 0 ≤ ((ms.drop k).map (·.1)).sum := sum_le_of_nonneg (fun x hx => by
    rw [List.mem_map] at hx
    obtain ⟨m, hm, rfl⟩ := hx
    have := h4 m (List.mem_of_mem_drop hm); omega)
  omega
theorem mapsOk.wt {s t : Int} {ms : List (Int × List Int)} (h : mapsOk s t ms) {k : Nat} (hk : k < ms.length) : 1 ≤ ms[k].1 ∧ ms[k].1 ≤ t := by
  have h1 := (h.sums (k := k) (by omega)).1
  have h2 := (h.sums (k := k + 1) (by omega)).2
  rw [sumW_succ hk] at h2
  obtain ⟨_, _, _, h4, _⟩ := h
  exact ⟨(h4 _ (List.getElem_mem hk)).1, by omega⟩
theorem goM_at {ms : List (Int × List Int)} {p x : Nat} (hp : p < ms.length) (hx : x < ms[p].2.length) : goM ms p x = ms[p].2[x] := by
  unfold goM
  simp [List.getD, hp, hx]
theorem goM_in {s t : Int} {ms : List (Int × List Int)} (h : mapsOk s t ms) {p x : Int} (hp : 0 ≤ p ∧ p < ms.length) (hx : 0 ≤ x ∧ x < s) : 0 ≤ goM ms p x ∧ goM ms p x < s := by
  obtain ⟨p, rfl⟩ := Int.eq_ofNat_of_zero_le hp.1
  obtain ⟨x, rfl⟩ := Int.eq_ofNat_of_zero_le hx.1
  obtain ⟨_, _, _, h4, _⟩ := h
  have hpl : p < ms.length := by omega
  obtain ⟨_, h6, h7⟩ := h4 _ (List.getElem_mem hpl)
  have hxl : x < ms[p].2.length := by omega
  rw [goM_at hpl hxl]
  exact h7 _ (List.getElem_mem hxl)
end Go.Proofs.Ytceobhmbnkheiaa
