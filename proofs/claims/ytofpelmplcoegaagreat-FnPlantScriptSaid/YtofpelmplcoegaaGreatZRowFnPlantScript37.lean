/-
  A script's answers: plain laws, and the small functions that tell them.
-/
import Derived.Test.YtofpelmplcoegaaGreatZRowFnPlantScript23
import Derived.Test.YtofpelmplcoegaaGreatZRowFnPlantScript13
import Derived.Test.YtofpelmplcoegaaGreatZRowFnPlantScript11
import Derived.Test.YtofpelmplcoegaaGreatZRowFnPlantScript29
import Derived.Deep.LoopGhost
set_option linter.unusedVariables false
set_option linter.unusedSimpArgs false
namespace Go.Proofs.YtofpelmplcoegaaGreat
open Go.RowKit Go.Sort
def spB : ByteArray := ⟨#[32]⟩
def nlB : ByteArray := ⟨#[10]⟩
def codeB (c : Int) : ByteArray := if c = 2 then ⟨#[114, 97, 110, 103, 101]⟩ else if c = 3 then ⟨#[108, 105, 109, 105, 116]⟩ else ⟨#[115, 116, 97, 116, 101]⟩
theorem codeB_size (c : Int) : (codeB c).size ≤ 5 := by
  unfold codeB
  split
  · decide
  · split <;> decide
def errB (c : Int) : ByteArray := if c = 0 then ⟨#[111, 107]⟩ else ⟨#[101, 114, 114, 111, 114, 32]⟩ ++ codeB c
theorem errB_size (c : Int) : (errB c).size ≤ 20 := by
  unfold errB
  split
  · decide
  · rw [ByteArray.size_append]
    have := codeB_size c
    show 6 + _ ≤ _
    omega
theorem doS_code (t : Int) (xss : List (List Int)) (bs : Int) (sm wk : Nat) (d : Int × Int) (S : PS) : (doS t xss bs sm wk d S).1 = 0 ∨ (doS t xss bs sm wk d S).1 = 2 ∨ (doS t xss bs sm wk d S).1 = 3 ∨ (doS t xss bs sm wk d S).1 = 4 := by
  unfold doS giveS workS wireS outS sendS
  repeat' (first | (split) | (dsimp only; omega))
def listB (xs : List Int) : ByteArray := if xs = [] then ⟨#[45]⟩ else decsB xs spB
theorem joinFrom_size {b : ByteArray} (hb : b.size ≤ 1) : ∀ (l : List ByteArray) (acc : ByteArray) (f : Bool), (∀ x ∈ l, x.size ≤ 20) → (joinFrom b acc f l).size ≤ acc.size + 21 * l.length
  | [], acc, f, _ => by simp [joinFrom]
  | x :: r, acc, f, h => by
    have h1 := h x (by simp)
    have h2 := joinFrom_size hb r ((if f = true then acc else acc ++ b) ++ x) false (fun y hy => h y (by simp [hy]))
    unfold joinFrom
    rw [ByteArray.size_append] at h2
    have h3 : (if f = true then acc else acc ++ b).size ≤ acc.size + 1 := by
      split
      · omega
      · rw [ByteArray.size_append]; omega
    simp only [List.length_cons]
    omega
theorem listB_size {xs : List Int} (h : In64 xs) (hl : xs.length ≤ 8) : (listB xs).size ≤ 200 := by
  unfold listB
  split
  · decide
  · unfold decsB joinB
    have h1 := joinFrom_size (b := spB) (by decide) (xs.map decIB) ⟨#[]⟩ true (fun x hx => by
      simp at hx
      obtain ⟨y, hy, rfl⟩ := hx
      have := h y hy
      exact decIB_size this.1 this.2)
    rw [List.length_map] at h1
    have h2 : (⟨#[]⟩ : ByteArray).size = 0 := rfl
    omega
def handedB : ByteArray := ⟨#[104, 97, 110, 100, 101, 100]⟩
def levelsB : ByteArray := ⟨#[108, 101, 118, 101, 108, 115]⟩
def journalB : ByteArray := ⟨#[106, 111, 117, 114, 110, 97, 108]⟩
def whatB : ByteArray := ⟨#[119, 104, 97, 116]⟩
def ansB (S : PS) (x : ByteArray) : ByteArray :=
  if x = handedB then listB S.out else if x = levelsB then listB S.l else if x = journalB then decB S.recs.length ++ spB ++ decB S.sy else whatB
section
variable (t : Int) (xss : List (List Int)) (bs : Int) (sm wk : Nat)
def lineS (x : ByteArray) (S : PS) : ByteArray × PS :=
  if (deedR x).2.2 = 0 then (errB (doS t xss bs sm wk ((deedR x).1, (deedR x).2.1) S).1, (doS t xss bs sm wk ((deedR x).1, (deedR x).2.1) S).2) else (ansB S x, S)
def scrS : List ByteArray → ByteArray → PS → ByteArray
  | [], acc, _ => acc
  | x :: r, acc, S => scrS r (acc ++ ((lineS t xss bs sm wk x S).1 ++ nlB)) (lineS t xss bs sm wk x S).2
end
theorem scrS_step {t : Int} {xss : List (List Int)} {bs : Int} {sm wk : Nat} {L : List ByteArray} {k : Nat} (h : k < L.length) (acc : ByteArray) (S : PS) : scrS t xss bs sm wk (L.drop k) acc S = scrS t xss bs sm wk (L.drop (k + 1)) (acc ++ ((lineS t xss bs sm wk L[k] S).1 ++ nlB)) (lineS t xss bs sm wk L[k] S).2 := by
  rw [List.drop_eq_getElem_cons h]; rfl
def linesB (text : ByteArray) : List ByteArray := if (cuts text 10).getD ((cuts text 10).length - 1) ⟨#[]⟩ = ⟨#[]⟩ then (cuts text 10).take ((cuts text 10).length - 1) else cuts text 10
def runSR (n t : Int) (xss : List (List Int)) (bs sm wk : Int) (text : ByteArray) : ByteArray × Int :=
  if serviceOk n t xss bs sm wk = true then (if 20000 < text.size ∨ 120 < (linesB text).length then (⟨#[]⟩, 2) else (scrS t xss bs sm.toNat wk.toNat (linesB text) ⟨#[]⟩ (newS sm.toNat wk.toNat), 0)) else (⟨#[]⟩, 1)
theorem deedR_ok (x : ByteArray) : (deedR x).2.2 = 0 → deedOk (deedR x).1 (deedR x).2.1 = true := by
  by_cases h : ∃ k a, IsDeed x k a
  · obtain ⟨k, a, h⟩ := h
    rw [deedR_yes h]
    exact fun _ => h.1
  · rw [deedR_no (fun k a hk => h ⟨k, a, hk⟩)]
    intro h
    exact absurd h (by decide)
theorem PInv.In64s {n sm wk : Nat} {S : PS} (I : PInv n sm wk S) (hn : n ≤ 6) : In64 S.out ∧ In64 S.l := by
  refine ⟨fun x hx => ?_, fun x hx => ?_⟩
  · have := I.outB x hx; omega
  · have := I.desk.ok.2.2.1 x hx; omega
theorem PInv.out8 {n sm wk : Nat} {S : PS} (I : PInv n sm wk S) (h8 : sm ≤ 8) : S.out.length ≤ 8 ∧ S.l.length ≤ 8 ∧ S.recs.length ≤ 72 ∧ S.sy ≤ 72 := by
  have h1 := I.outs
  have h2 := I.desk.ok.2.2.2.2
  have h3 : S.l.length = sm := I.desk.ok.1
  have h4 := I.len
  have h5 := I.sy
  dsimp only at h2
  omega
theorem ansB_size {n sm wk : Nat} {S : PS} (I : PInv n sm wk S) (hn : n ≤ 6) (h8 : sm ≤ 8) (x : ByteArray) : (ansB S x).size ≤ 200 := by
  obtain ⟨i1, i2⟩ := I.In64s hn
  obtain ⟨o1, o2, o3, o4⟩ := I.out8 h8
  unfold ansB
  split
  · exact listB_size i1 o1
  · split
    · exact listB_size i2 o2
    · split
      · have h1 := decB_size_le (k := 1) (n := S.recs.length) (by omega)
        have h2 := decB_size_le (k := 1) (n := S.sy) (by omega)
        simp only [ByteArray.size_append]
        show _ + 1 + _ ≤ _
        omega
      · decide
theorem lineS_size {t : Int} {xss : List (List Int)} {bs : Int} {n sm wk : Nat} {S : PS} (I : PInv n sm wk S) (hn : n ≤ 6) (h8 : sm ≤ 8) (x : ByteArray) : (lineS t xss bs sm wk x S).1.size ≤ 200 := by
  unfold lineS
  split
  · have := errB_size (doS t xss bs sm wk ((deedR x).1, (deedR x).2.1) S).1
    dsimp only
    omega
  · exact ansB_size I hn h8 x
theorem lineS_inv {t : Int} {xss : List (List Int)} {bs : Int} {n sm wk : Nat} {S : PS} (I : PInv n sm wk S) (hc : chainOk n t xss = true) (h1 : 1 ≤ sm) (x : ByteArray) : PInv n sm wk (lineS t xss bs sm wk x S).2 := by
  unfold lineS
  split
  · rename_i h
    have hd := deedR_ok x h
    unfold deedOk at hd
    rw [Bool.and_eq_true, Bool.and_eq_true] at hd
    exact I.do_ hc h1 (inR_iff.1 hd.2.1).1
  · exact I
theorem beqF {a b : ByteArray} (h : ¬ a = b) : (a.toList == b.toList) = false := by
  cases hh : (a.toList == b.toList) with
  | false => rfl
  | true => exact absurd (beq_eq hh) h

set_option maxRecDepth 100000 in
set_option maxHeartbeats 1000000 in
theorem ImplCodeName_any (c : Int) (w : World) (hc : c = 2 ∨ c = 3 ∨ c = 4) :
    Calls Tryz.prog 61 #[.int .i64 c] w fun e w' => e = .returned (.string (codeB c)) ∧ Below w.heap.size w w' := by
  rcases hc with rfl | rfl | rfl <;>
  · go_enter Tryz.func61, Tryz.ntmps61
    go_wp2_with fail
    refine (hasIndexP_any _ 9 _ (by decide)).mono ?_
    rintro e w1 ⟨rfl, b1⟩
    have q2 := b1.cell (p := ⟨w.heap.size, 2, none⟩) (by simp)
    have q3 := b1.cell (p := ⟨w.heap.size, 3, none⟩) (by simp)
    have q4 := b1.cell (p := ⟨w.heap.size, 4, none⟩) (by simp)
    simp [go_sem] at q2 q3 q4
    have bb := ((Below.refl w.heap.size w).alloc (Nat.le_refl _) _).trans (b1.mono (by simp))
    have e1 : inR 2 0 ((9 : Nat) - 1 : Int) = true := by decide
    have e2 : inR 3 0 ((9 : Nat) - 1 : Int) = true := by decide
    have e3 : inR 4 0 ((9 : Nat) - 1 : Int) = true := by decide
    clear b1
    go_wp2
    go_ret
    exact ⟨rfl, bb⟩

set_option maxRecDepth 100000 in
set_option maxHeartbeats 1000000 in
theorem SpecCodeName_any (c : Int) (w : World) (hc : c = 2 ∨ c = 3 ∨ c = 4) :
    Calls Tryz.prog 70 #[.int .i64 c] w fun e w' => e = .returned (.string (codeB c)) ∧ Below w.heap.size w w' := by
  rcases hc with rfl | rfl | rfl <;>
  · have bb := (Below.refl w.heap.size w).alloc (Nat.le_refl _) (.cells #[.string ⟨#[111, 107]⟩, .string ⟨#[105, 110, 118, 97, 108, 105, 100]⟩, .string ⟨#[114, 97, 110, 103, 101]⟩, .string ⟨#[108, 105, 109, 105, 116]⟩, .string ⟨#[115, 116, 97, 116, 101]⟩, .string ⟨#[115, 121, 110, 116, 97, 120]⟩, .string ⟨#[110, 111, 116, 102, 111, 117, 110, 100]⟩, .string ⟨#[98, 117, 100, 103, 101, 116]⟩, .string ⟨#[112, 114, 111, 111, 102]⟩] 9)
    go_enter Tryz.func70, Tryz.ntmps70
    go_wp2
    go_ret
    exact ⟨rfl, bb⟩

set_option maxHeartbeats 1000000 in
theorem orDash_any {u : Value} {xs : List Int} (w : World) (ha : SlI w u xs) (hl : xs.length ≤ 1000) (hs : In64 xs) :
    Calls Tryz.prog 62 #[u] w fun e w' => e = .returned (.string (listB xs)) ∧ Below w.heap.size w w' := by
  have K := Lib.hid (decimals_any spB w ha (by omega) hs (by decide))
  obtain ⟨a, ca, rfl, _⟩ := ha
  by_cases h0 : xs.length = 0
  · have h1 : xs = [] := List.length_eq_zero_iff.1 h0
    subst h1
    go_enter Tryz.func62, Tryz.ntmps62
    go_wp2
    go_ret
    exact ⟨rfl, Below.refl _ _⟩
  · have h1 : xs ≠ [] := fun h => h0 (by rw [h]; rfl)
    have HX := Lib.hid (show listB xs = decsB xs spB from if_neg h1)
    have t0 : ((xs.length : Int) == 0) = false := by simp only [beq_eq_false_iff_ne, ne_eq]; omega
    clear h1
    go_enter Tryz.func62, Tryz.ntmps62
    go_wp2_with fail
    refine K.out.mono ?_
    rintro e w1 ⟨rfl, b1⟩
    go_wp2
    go_ret
    exact ⟨rs HX.out.symm, b1⟩

set_option maxHeartbeats 1000000 in
theorem l09Signed_any (n : Int) (w : World) (h0 : -1000 ≤ n) (h1 : n ≤ 1000) :
    Calls Tryz.prog 122 #[.int .i64 n] w fun e w' => e = .returned (.string (decIB n)) ∧ Below w.heap.size w w' := by
  by_cases hn : n < 0
  · have hw : IntKind.i64.wrap (-n) = (n.natAbs : Int) := by rw [IntWalk.i64_in _ (by omega)]; omega
    have K := Lib.hid (Decimal_any 17 n.natAbs w (by omega) (by decide))
    have hz := decB_size_le (k := 17) (n := n.natAbs) (by omega)
    have HF := Lib.hid (show decIB n = ⟨#[45]⟩ ++ decB n.natAbs by
      unfold decIB decI decB
      rw [if_pos hn]
      apply ByteArray.ext
      simp)
    have z1 : ¬ 9223372036854775807 < 1 + (decB n.natAbs).size := by omega
    go_enter Tryz.func122, Tryz.ntmps122
    go_wp2_with fail
    refine K.out.mono ?_
    rintro e w1 ⟨rfl, b1⟩
    go_wp2
    go_ret
    exact ⟨rs (by rw [HF.out]), b1⟩
  · obtain ⟨m, rfl⟩ : ∃ m : Nat, n = (m : Int) := ⟨n.toNat, by omega⟩
    have K := Lib.hid (Decimal_any 17 m w (by omega) (by decide))
    have hn' : (0 : Int) ≤ (m : Int) := by omega
    rw [decIB_nat]
    go_enter Tryz.func122, Tryz.ntmps122
    go_wp2_with fail
    refine K.out.mono ?_
    rintro e w1 ⟨rfl, b1⟩
    go_wp2
    go_ret
    exact ⟨rfl, b1⟩

set_option maxHeartbeats 1000000 in
theorem l09List_any {u : Value} {xs : List Int} (w : World) (ha : SlI w u xs) (hl : xs.length ≤ 1000) (hs : ∀ x ∈ xs, -1000 ≤ x ∧ x ≤ 1000) :
    Calls Tryz.prog 103 #[u] w fun e w' => e = .returned (.string (listB xs)) ∧ Below w.heap.size w w' := by
  have HA := Lib.hid (fun W (h : Below w.heap.size w W) => ha.below h)
  obtain ⟨a, ca, rfl, _⟩ := ha
  have HS := Lib.hid hs
  clear hs
  by_cases h0 : xs.length = 0
  · have h1 : xs = [] := List.length_eq_zero_iff.1 h0
    subst h1
    go_enter Tryz.func103, Tryz.ntmps103
    go_wp2
    go_ret
    exact ⟨rfl, Below.refl _ _⟩
  · have h1 : xs ≠ [] := fun h => h0 (by rw [h]; rfl)
    have HX := Lib.hid (show listB xs = joinFrom spB ⟨#[]⟩ true (xs.map decIB) from if_neg h1)
    have t0 : ((xs.length : Int) == 0) = false := by simp only [beq_eq_false_iff_ne, ne_eq]; omega
    have hml : (xs.map decIB).length = xs.length := by simp
    have HML := Lib.hid hml
    clear h1 hml
    go_enter Tryz.func103, Tryz.ntmps103
    go_wp2
    go_loopg [3, 4] xs.length (fun f o i wr => ∃ (k : Nat) (acc : ByteArray), (k ≤ xs.length ∧ f = xs.length - k) ∧ i = .int .i64 k ∧ o = .string acc ∧ acc.size ≤ 48 * k ∧ Hid (joinFrom spB ⟨#[]⟩ true (xs.map decIB) = joinFrom spB acc (decide (k = 0)) ((xs.map decIB).drop k)) ∧ Below w.heap.size w wr)
    case atStart => exact ⟨0, ⟨#[]⟩, ⟨Nat.zero_le _, rfl⟩, rfl, rfl, Nat.le_refl _, rfl, Below.refl _ _⟩
    case round =>
      obtain ⟨k, acc, ⟨hk, rfl⟩, rfl, rfl, hsz, hj, hb⟩ := hrel
      by_cases hlt : k < xs.length
      · obtain ⟨bb, off, rfl, _, gc⟩ := (HA.out _ hb).at_ hlt
        have i1 : (k : Int) < (xs.length : Int) := by omega
        have hx := HS.out _ (List.getElem_mem hlt)
        have hst := joinFrom_step (b := spB) (acc := acc) (f := decide (k = 0)) (l := xs.map decIB) (by rw [HML.out]; exact hlt)
        rw [List.getElem_map] at hst
        have KS := Lib.hid (l09Signed_any xs[k] wr hx.1 hx.2)
        have hz := decIB_size (n := xs[k]) (by omega) (by omega)
        generalize xs[k] = x at gc hx hst KS hz
        have HST := Lib.hid hst
        have HB := Lib.hid hb
        clear hst hx
        generalize decIB x = y at KS hz HST
        have z0 : y.size ≤ 20 := hz
        by_cases h0 : k = 0
        · subst h0
          simp only [Nat.add_zero] at gc
          have z1 : ¬ 9223372036854775807 < acc.size + y.size := by omega
          go_wp2_with fail
          refine KS.out.mono ?_
          rintro e w1 ⟨rfl, b1⟩
          have HB1 := Lib.hid (HB.out.trans (b1.mono HB.out.size))
          clear b1 KS gc
          go_wp2
          go_roundg (xs.length - 1)
          case rel => exact ⟨1, acc ++ y, ⟨by omega, rfl⟩, by go_num, rfl, by rw [ByteArray.size_append]; omega, by unfold Hid at *; rw [hj, HST]; rfl, HB1.out⟩
          case measure => omega
        · have h0' : 0 < k := by omega
          have h0i : (0 : Int) < (k : Int) := by omega
          have hd : decide (k = 0) = false := by simpa using h0
          have HD := Lib.hid hd
          have z1 : ¬ 9223372036854775807 < acc.size + 1 := by omega
          have z2 : ¬ 9223372036854775807 < acc.size + 1 + y.size := by omega
          clear hd h0
          go_wp2_with fail
          refine KS.out.mono ?_
          rintro e w1 ⟨rfl, b1⟩
          have HB1 := Lib.hid (HB.out.trans (b1.mono HB.out.size))
          clear b1 KS gc
          go_wp2
          go_roundg (xs.length - (k + 1))
          case rel => exact ⟨k + 1, acc ++ spB ++ y, ⟨by omega, rfl⟩, by go_num, rfl, by rw [ByteArray.size_append, ByteArray.size_append]; show acc.size + 1 + _ ≤ _; omega, by unfold Hid at *; rw [hj, HST, HD]; rfl, HB1.out⟩
          case measure => omega
      · obtain rfl : k = xs.length := by omega
        go_wp2
        go_ret
        exact ⟨rs (by rw [HX.out, hj.out, List.drop_eq_nil_of_le (by rw [HML.out]; exact Nat.le_refl _)]; rfl), hb⟩
end Go.Proofs.YtofpelmplcoegaaGreat
