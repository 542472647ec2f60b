/-
  Slices of flat elements (some one-cell fields each): read, owned, made, grown; append of any slice.
-/
import Derived.Test.YtipkdbicijibpaaLibII
namespace Go.Proofs.Ytipkdbicijibpaa
open Go.RowKit

theorem run_append_of_nil {P : Program} (w : World) (base : Nat) (t ty e : TypeId) (i : TypeInfo) (size : Nat) (ht : P.underlying t = some (.slice e)) (hi : P.info? e = some i)
    (v : Value) (n : Nat) (xs : List Value) (hown : w.ownsRow base e size v n xs) (c : Nat) : (Builtin.append_ #[t, t] ty #[v, .slice none 0 c]).run P w = .ok v w := by
  rcases hown.2 with ⟨rfl, rfl⟩ | ⟨g, cap, cur, rfl, _, _, hnc, _⟩
  · simp [Builtin.append_, run_underlying ht, sizeOf, typeInfo, hi, Builtin.lenOf, Builtin.firstCells]
  · simp [Builtin.append_, run_underlying ht, sizeOf, typeInfo, hi, Builtin.lenOf, Builtin.firstCells, hnc, storeCells]

/-- an element type E of a slice type T: its fields are one cell each -/
structure Flat (α : Type) where
  T : Nat
  E : Nat
  z : Value
  size : Nat
  bytes : Nat
  enc : α → List Value
  und : Try.prog.underlying T = some (.slice E)
  inf : (Try.prog.info? E).map (fun i => (i.zero, i.size, i.bytes)) = some (some z, size, bytes)
  zsz : z.cells.size = size
  pos : 0 < size
  few : bytes ≤ 4096
  len : ∀ x, (enc x).length = size
  one : ∀ x u, u ∈ enc x → u.oneCell' = true
namespace Flat
variable {α : Type}
def encs (F : Flat α) (xs : List α) : List Value := xs.flatMap F.enc
theorem encs_nil (F : Flat α) : F.encs [] = [] := rfl
theorem encs_cons (F : Flat α) (x : α) (xs : List α) : F.encs (x :: xs) = F.enc x ++ F.encs xs := rfl
theorem encs_append (F : Flat α) (xs ys : List α) : F.encs (xs ++ ys) = F.encs xs ++ F.encs ys := by simp [encs]
theorem encs_length (F : Flat α) : ∀ xs : List α, (F.encs xs).length = xs.length * F.size
  | [] => by simp [encs]
  | x :: xs => by rw [encs_cons, List.length_append, F.len, encs_length F xs, List.length_cons]; rw [Nat.add_mul]; omega
theorem encs_one (F : Flat α) {xs : List α} {u : Value} (h : u ∈ F.encs xs) : u.oneCell' = true := by
  unfold encs at h
  rw [List.mem_flatMap] at h
  obtain ⟨x, _, hx⟩ := h
  exact F.one x u hx
theorem encs_get (F : Flat α) : ∀ {xs : List α} {i j : Nat} (hi : i < xs.length), j < F.size → (F.encs xs)[i * F.size + j]? = (F.enc xs[i])[j]?
  | x :: xs, 0, j, _, hj => by
    rw [encs_cons, Nat.zero_mul, Nat.zero_add, List.getElem?_append_left (by rw [F.len]; exact hj)]; rfl
  | x :: xs, i + 1, j, hi, hj => by
    have h1 : (i + 1) * F.size + j = F.size + (i * F.size + j) := by rw [Nat.add_mul]; omega
    rw [encs_cons, List.getElem?_append_right (by rw [F.len]; omega), h1, F.len, Nat.add_sub_cancel_left]
    exact encs_get F (by simpa using hi) hj
/-- a slice that reads so -/
def Sl (F : Flat α) (w : World) (v : Value) (xs : List α) : Prop :=
  ∃ ad c, v = .slice ad xs.length c ∧ xs.length ≤ c ∧ c ≤ maxLen ∧ Rd w ad (F.encs xs)
def Own (F : Flat α) (w : World) (base : Nat) (v : Value) (xs : List α) : Prop := w.ownsRow base F.E F.size v xs.length (F.encs xs)
variable {F : Flat α}
theorem Sl.below {w w' : World} {v : Value} {xs : List α} (h : F.Sl w v xs) (hb : Below w.heap.size w w') : F.Sl w' v xs := by
  obtain ⟨ad, c, h1, h2, h3, h4⟩ := h
  exact ⟨ad, c, h1, h2, h3, h4.below hb⟩
theorem Sl.nil (w : World) : F.Sl w (.slice none 0 0) [] := ⟨none, 0, rfl, Nat.le_refl _, by simp [maxLen], Rd.nil _ _⟩
theorem Own.sl {w : World} {base : Nat} {v : Value} {xs : List α} (h : F.Own w base v xs) : F.Sl w v xs := by
  obtain ⟨ad, c, h1, h2, h3, h4⟩ := ownsRow_rd h
  exact ⟨ad, c, h1, h2, h3, h4⟩
theorem Own.below {w w' : World} {base : Nat} {v : Value} {xs : List α} (h : F.Own w base v xs) (hb : Below w.heap.size w w') : F.Own w' base v xs := ownsRow_below h hb
theorem Own.lower {w : World} {base base' : Nat} {v : Value} {xs : List α} (h : F.Own w base v xs) (hb : base' ≤ base) : F.Own w base' v xs := ownsRow_lower h hb
theorem Own.nil (w : World) (base : Nat) : F.Own w base (.slice none 0 0) [] := World.ownsRow_nil _ _ _ _
theorem Own.empty (w : World) {base : Nat} (hb : base ≤ w.heap.size) : F.Own (w.alloc (.cells #[] F.E)) base (.slice (some ⟨w.heap.size, 0, none⟩) 0 0) [] :=
  World.ownsRow_lit (base := base) (e := F.E) (size := F.size) w #[] 0 hb (by simp [maxLen]) (by simp)
theorem Own.grown {w w' : World} {base : Nat} {v : Value} {xs : List α} (h : F.Own w base v xs) (hg : w.grownBy w' v.ownBlock) (hb : base ≤ w.heap.size) : Below base w w' :=
  (Below.refl _ _).grown hg hb (fun k hk => (h.lt k hk).1)
theorem Own.forms {w : World} {base : Nat} {v : Value} {xs : List α} (h : F.Own w base v xs) :
    (v = .slice none 0 0 ∧ xs = []) ∨ ∃ g c, v = .slice (some ⟨g, 0, none⟩) xs.length c ∧ base ≤ g ∧ g < w.heap.size ∧ xs.length ≤ c ∧ c ≤ maxLen := by
  rcases h.2 with ⟨h1, h2⟩ | ⟨g, c, cur, h1, h2, h3, h4, h5, _⟩
  · exact .inl ⟨h1, List.length_eq_zero_iff.1 h2⟩
  · exact .inr ⟨g, c, h1, h2, (Array.getElem?_eq_some_iff.1 h3).1, h4, h5⟩
theorem Own.len_of {w : World} {base g n c : Nat} {xs : List α} (h : F.Own w base (.slice (some ⟨g, 0, none⟩) n c) xs) : n = xs.length := by
  rcases h.2 with ⟨h1, _⟩ | ⟨g', c', cur, h1, _⟩
  · simp at h1
  · simp at h1; exact h1.2.1
theorem Own.cell {w : World} {base g n c : Nat} {xs : List α} (h : F.Own w base (.slice (some ⟨g, 0, none⟩) n c) xs) {i j : Nat} (hi : i < xs.length) (hj : j < F.size) :
    w.cell? ⟨g, i * F.size + j, none⟩ = (F.enc xs[i])[j]? := by
  obtain rfl := h.len_of
  have h1 : i * F.size + j < xs.length * F.size := by
    have : (i + 1) * F.size ≤ xs.length * F.size := Nat.mul_le_mul_right _ hi
    rw [Nat.add_mul] at this; omega
  rw [World.ownsRow.cellAt h _ h1, F.encs_get hi hj]
theorem Own.free {w : World} {base g n c : Nat} {xs : List α} (h : F.Own w base (.slice (some ⟨g, 0, none⟩) n c) xs) (i : Nat) : w.frozen? ⟨g, i, none⟩ = false := by
  obtain rfl := h.len_of
  exact World.ownsRow.frozenAt h i
theorem Sl.at_ {w : World} {ad : Option Addr} {n c : Nat} {xs : List α} (h : F.Sl w (.slice ad n c) xs) {i : Nat} (hi : i < xs.length) :
    ∃ b off, ad = some ⟨b, off, none⟩ ∧ b < w.heap.size ∧ ∀ j u, (F.enc xs[i])[j]? = some u → w.cell? ⟨b, off + (i * F.size + j), none⟩ = some u := by
  obtain ⟨ad', c', he, _, _, h4⟩ := h
  simp at he
  obtain ⟨rfl, _, _⟩ := he
  have hl : i * F.size < (F.encs xs).length := by
    rw [F.encs_length]
    exact (Nat.mul_lt_mul_right F.pos).2 hi
  obtain ⟨b, off, h5, h6, h7⟩ := h4.all hl
  refine ⟨b, off, h5, h6, fun j u hu => h7 _ u ?_⟩
  have hj : j < F.size := by rw [← F.len xs[i]]; exact (List.getElem?_eq_some_iff.1 hu).1
  rw [F.encs_get hi hj]; exact hu
theorem Sl.len_of {w : World} {ad : Option Addr} {n c : Nat} {xs : List α} (h : F.Sl w (.slice ad n c) xs) : n = xs.length ∧ n ≤ c ∧ c ≤ maxLen := by
  obtain ⟨ad', c', he, h2, h3, _⟩ := h
  simp at he
  obtain ⟨_, rfl, rfl⟩ := he
  exact ⟨rfl, h2, h3⟩
/-- append of any slice on an owned one -/
theorem append {ops : Array Oper} {rest : List Oper} {o : Oper} {a : Act} {Q : Exit → Act → World → Prop} (F : Flat α) (w : World) (s x : Operand) (hg : o.guard = none)
    (ho : o.op = .call { callee := .builtin .append, args := #[s, x], argTypes := #[F.T, F.T] })
    {base : Nat} {v : Value} {xs ys : List α} (hs : a.eval s = v) (hown : F.Own w base v xs) {ad : Option Addr} {c : Nat} (hx : a.eval x = .slice ad ys.length c) (hr : Rd w ad (F.encs ys))
    (hlen : xs.length + ys.length ≤ 16777216) (hbase : base ≤ w.heap.size)
    (h : ∀ v' w', F.Own w' base v' (xs ++ ys) → w.grownBy w' v.ownBlock → Below base w w' → wpList Try.prog ops Q rest (a.put o.dst v') w') : wpList Try.prog ops Q (o :: rest) a w := by
  obtain ⟨i0, hi, hz0, hz1, hz2⟩ := info_parts F.inf
  cases ad with
  | none =>
    have h0 : ys = [] := by
      cases ys with
      | nil => rfl
      | cons y ys =>
        have hl : 0 < (F.encs (y :: ys)).length := by rw [F.encs_length]; exact Nat.mul_pos (by simp) F.pos
        obtain ⟨b, off, h1, _⟩ := hr.all hl
        simp at h1
    subst h0
    refine wpList_plain hg fun K hK => ?_
    have hrun := run_append_of_nil (P := Try.prog) w base F.T o.type F.E i0 F.size F.und hi v xs.length (F.encs xs) hown c
    unfold Oper.wp execOp
    simp only [List.length_nil] at hx
    simp only [ho, resolve, invoke, builtin, Sem.run_bind, Sem.run_pure, Result.andThen_ok, List.map_toArray, List.map_cons, List.map_nil, hs, hx, hrun]
    exact hK _ _ (h v w (by simpa using hown) (World.grownBy.refl w _) (Below.refl _ _))
  | some ad =>
    refine wpList_append_own _ hg s x _ ho base F.E i0 F.z F.size F.bytes F.und hi hz0 hz1 hz2 F.zsz F.pos v xs.length (F.encs xs) hs hown ad ys.length c (F.encs ys) hx (F.encs_length ys) ?_ (fun u hu => F.encs_one hu) (by simp [maxLen]; omega) ?_ hbase (fun v' w' h1 h2 _ => ?_)
    · intro j u hu
      obtain ⟨b, off, he, _, hc⟩ := hr j u hu
      simp at he
      subst he
      unfold Addr.add
      by_cases hj : j = 0
      · subst hj; simpa using hc
      · simpa [hj] using hc
    · have := F.few
      calc (xs.length + ys.length) * F.bytes ≤ 16777216 * 4096 := Nat.mul_le_mul hlen this
        _ ≤ 140737488355328 := by decide
    · refine h v' w' ?_ h2 ((Below.refl _ _).grown h2 hbase (fun k hk => (hown.lt k hk).1))
      unfold Own
      rw [encs_append, List.length_append]
      exact h1
/-- make -/
theorem make {ops : Array Oper} {rest : List Oper} {o : Oper} {a : Act} {Q : Exit → Act → World → Prop} (F : Flat α) (w : World) (l c : Operand) (z : α) (hz : F.z.cells.toList = F.enc z) (hg : o.guard = none) (hop : o.op = Op.makeSlice F.T l c)
    (n : Nat) {kl kc : IntKind} {L C : Int} (hl : a.eval l = .int kl L) (hc : a.eval c = .int kc C) (hL : L = (n : Int)) (hC : C = (n : Int)) (hn : n ≤ 16777216)
    (hm : (madeCells F.z.cells (n * F.size)).toList = F.encs (List.replicate n z))
    (hK : ∀ w', F.Own w' w.heap.size (.slice (some ⟨w.heap.size, 0, none⟩) n n) (List.replicate n z) → Below w.heap.size w w' → w.heap.size < w'.heap.size → wpList Try.prog ops Q rest (a.put o.dst (.slice (some ⟨w.heap.size, 0, none⟩) n n)) w') :
    wpList Try.prog ops Q (o :: rest) a w := by
  obtain ⟨i0, hi, hz0, hz1, hz2⟩ := info_parts F.inf
  refine wpList_make_full w hg l c _ hop w.heap.size F.E i0 F.z F.size F.und hi hz0 hz1 kl kc L C n hl hc hL hC ?_ (by simp [maxLen]; omega) (Nat.le_refl _) (fun w' h1 h2 => ?_)
  · rw [hz2]
    have := F.few
    calc F.bytes * n ≤ 4096 * 16777216 := Nat.mul_le_mul this hn
      _ ≤ 281474976710656 := by decide
  · rw [hm] at h1
    refine hK w' (by unfold Own; rw [List.length_replicate]; exact h1) ((Below.refl _ _).grown h2 (Nat.le_refl _) (by simp)) (h1.lt w.heap.size rfl).2
end Flat
/-- a new block's cells -/
theorem rd_new (w : World) (cs : Array Value) (t : Nat) : Rd (w.alloc (.cells cs t)) (some ⟨w.heap.size, 0, none⟩) cs.toList := by
  intro j u hu
  refine ⟨w.heap.size, 0, rfl, by simp, ?_⟩
  simp at hu
  simp [go_sem, hu]
/-- int64 -/
def FI : Flat Int := ⟨29, 2, .int .i64 0, 1, 8, fun x => [.int .i64 x], Try.underlying29, by kernel_rfl, rfl, by decide, by decide, fun _ => rfl, by intro x u h; simp at h; subst h; rfl⟩
theorem FI_encs (xs : List Int) : FI.encs xs = i64s xs := by
  induction xs with
  | nil => rfl
  | cons x xs ih => rw [Flat.encs_cons, ih]; rfl
theorem FI_own {w : World} {base : Nat} {v : Value} {xs : List Int} : FI.Own w base v xs = OwnI w base v xs := by
  unfold Flat.Own OwnI; rw [FI_encs]; rfl
theorem SlI.at_ {w : World} {ad : Option Addr} {n c : Nat} {xs : List Int} (h : SlI w (.slice ad n c) xs) {k : Nat} (hk : k < xs.length) :
    ∃ b off, ad = some ⟨b, off, none⟩ ∧ b < w.heap.size ∧ w.cell? ⟨b, off + k, none⟩ = some (.int .i64 xs[k]) := by
  obtain ⟨ad', c', he, _, _, h4⟩ := h
  simp at he
  obtain ⟨rfl, _, _⟩ := he
  exact h4 k _ (i64s_get hk)
/-- append(v, u...) on an owned []int64 -/
theorem append_SlI {ops : Array Oper} {rest : List Oper} {o : Oper} {a : Act} {Q : Exit → Act → World → Prop} (w : World) (s x : Operand) (hg : o.guard = none)
    (ho : o.op = .call { callee := .builtin .append, args := #[s, x], argTypes := #[29, 29] })
    {base : Nat} {v u : Value} {xs ys : List Int} (hs : a.eval s = v) (hown : OwnI w base v xs) (hx : a.eval x = u) (hu : SlI w u ys)
    (hlen : xs.length + ys.length ≤ 16777216) (hbase : base ≤ w.heap.size)
    (h : ∀ v' w', OwnI w' base v' (xs ++ ys) → w.grownBy w' v.ownBlock → Below base w w' → wpList Try.prog ops Q rest (a.put o.dst v') w') : wpList Try.prog ops Q (o :: rest) a w := by
  obtain ⟨ad, c, rfl, _, _, hr⟩ := hu
  rw [← FI_encs] at hr
  rw [← FI_own] at hown
  exact Flat.append FI w s x hg ho hs hown hx hr hlen hbase (fun v' w' h1 h2 h3 => h v' w' (by rw [← FI_own]; exact h1) h2 h3)

def FB : Flat Bool := ⟨56, 4, .bool false, 1, 1, fun x => [.bool x], Try.underlying56, by kernel_rfl, rfl, by decide, by decide, fun _ => rfl, by intro x u h; simp at h; subst h; rfl⟩
theorem madeCells_one' {v : Value} (hv : v.cells = #[v]) (n : Nat) : (madeCells v.cells (n * 1)).toList = List.replicate n v := by
  rw [hv, Nat.mul_one, toList_madeCells_one]
theorem FB_encs (xs : List Bool) : FB.encs xs = xs.map .bool := by
  induction xs with
  | nil => rfl
  | cons x xs ih => rw [Flat.encs_cons, ih]; rfl
theorem FB_made (n : Nat) : (madeCells FB.z.cells (n * FB.size)).toList = FB.encs (List.replicate n false) := by
  rw [FB_encs, List.map_replicate]
  exact madeCells_one' (v := .bool false) rfl n
end Go.Proofs.Ytipkdbicijibpaa
