/-
  The program's own decimal: for every int64 its digits, with a sign ahead if it is below 0.
-/
import Derived.Test.YtceobhmbnkheiaaZRowFnMaps6
import Derived.Deep.DeepCutAuto
import Derived.Laws.CopyOwn
set_option linter.unusedVariables false
set_option linter.unusedSimpArgs false
namespace Go.Proofs.Ytceobhmbnkheiaa
open Go.RowKit
def decI (n : Int) : List UInt8 := if n < 0 then 45 :: dec n.natAbs else dec n.natAbs
def decIB (n : Int) : ByteArray := ⟨(decI n).toArray⟩
def bytesV (l : List UInt8) : List Value := l.map fun c => .int .u8 c.toNat
/-- what is still to come -/
def restD (r : Nat) : List UInt8 := if r = 0 then [] else dec r
theorem restD_pos {r : Nat} (h : 0 < r) : restD r = restD (r / 10) ++ [dig (r % 10)] := by
  unfold restD
  rw [if_neg (by omega)]
  by_cases h10 : r < 10
  · rw [if_pos (by omega), dec_lt h10, Nat.mod_eq_of_lt h10]; rfl
  · rw [if_neg (by omega), dec_ge (by omega)]
/-- the buffer: a block of 20 bytes of which those from j on are told -/
def Buf (w : World) (b j : Nat) (em : List UInt8) : Prop :=
  ∃ cur, w.heap[b]? = some (.cells cur 123 (0, 0)) ∧ cur.size = 20 ∧ j + em.length = 20 ∧ cur.toList.drop j = bytesV em
theorem Buf.store {w : World} {b j : Nat} {em : List UInt8} (h : Buf w b (j + 1) em) (c : UInt8) : Buf (w.setCell ⟨b, j, none⟩ (.int .u8 c.toNat)) b j (c :: em) := by
  obtain ⟨cur, h1, h2, h3, h4⟩ := h
  refine ⟨cur.setIfInBounds j (.int .u8 c.toNat), heap_setCell_same _ _ _ _ _ _ h1, by simpa using h2, by simp; omega, ?_⟩
  rw [Array.toList_setIfInBounds, List.drop_eq_getElem_cons (by simp; omega), List.getElem_set_self]
  simp only [bytesV, List.map_cons]
  rw [List.drop_set_of_lt (by omega)]
  exact congrArg _ h4
theorem Buf.has {w : World} {b j : Nat} {em : List UInt8} (h : Buf w b j em) {i : Nat} (hi : i < 20) : ∃ v, w.cell? ⟨b, i, none⟩ = some v := by
  obtain ⟨cur, h1, h2, h3, h4⟩ := h
  exact ⟨cur[i]'(by omega), by rw [cell_of_row w b i cur _ _ h1]; simp [h2, hi]⟩
theorem Buf.free {w : World} {b j : Nat} {em : List UInt8} (h : Buf w b j em) (i : Nat) : w.frozen? ⟨b, i, none⟩ = false := by
  obtain ⟨cur, h1, h2, h3, h4⟩ := h
  exact frozen_of_row w b i cur _ h1
theorem Buf.lt {w : World} {b j : Nat} {em : List UInt8} (h : Buf w b j em) : b < w.heap.size := by
  obtain ⟨cur, h1, _⟩ := h
  exact (Array.getElem?_eq_some_iff.1 h1).1
/-- R has at most j digits -/
def Fits (R j : Nat) : Prop := R < 10 ^ j
theorem Fits.pos {R j : Nat} (h : Fits R j) (hR : 0 < R) : ∃ i, j = i + 1 := by
  cases j with
  | zero => simp [Fits] at h; omega
  | succ j => exact ⟨j, rfl⟩
theorem Fits.div {R j : Nat} (h : Fits R (j + 1)) : Fits (R / 10) j := by
  unfold Fits at *; rw [Nat.pow_succ] at h; omega
theorem Fits.wrap {R i : Nat} (h : Fits R (i + 1)) (hi : i < 20) : IntKind.u64.wrap ((R : Int) / 10) = ((R / 10 : Nat) : Int) := by
  have h1 : Fits (R / 10) i := h.div
  have h2 : R / 10 < 10 ^ 19 := Nat.lt_of_lt_of_le h1 (Nat.pow_le_pow_right (by omega) (by omega))
  have h3 : (10 : Nat) ^ 19 = 10000000000000000000 := by decide
  rw [IntWalk.u64_in _ (by omega)]
  omega
theorem Buf.bound {w : World} {b j : Nat} {em : List UInt8} (h : Buf w b j em) : j ≤ 20 ∧ em.length = 20 - j := by
  obtain ⟨cur, h1, h2, h3, h4⟩ := h; omega
theorem Buf.new (w : World) (cur : Array Value) (h : cur.size = 20) : Buf (w.alloc (.cells cur 123)) w.heap.size 20 [] :=
  ⟨cur, heap_alloc_new w _, h, rfl, by simp [bytesV, h]⟩
theorem dig_toNat (r : Nat) : ((dig (r % 10)).toNat : Int) = 48 + (r : Int) % 10 := by
  unfold dig; simp; omega
theorem Buf.read {w : World} {b j : Nat} {em : List UInt8} (h : Buf w b j em) : ∀ i, i < 20 - j → w.cell? ⟨b, j + i, none⟩ = some (.int .u8 ((em.map fun c => (c.toNat : Int)).getD i 0)) := by
  obtain ⟨cur, h1, h2, h3, h4⟩ := h
  intro i hi
  rw [cell_of_row w b (j + i) cur _ _ h1]
  have h5 : (cur.toList.drop j)[i]? = (bytesV em)[i]? := by rw [h4]
  rw [List.getElem?_drop] at h5
  simp only [Array.getElem?_toList] at h5
  rw [h5]
  have : i < em.length := by omega
  simp [bytesV, this]
theorem strOfNums_bytes (em : List UInt8) : strOfNums (em.map fun c => (c.toNat : Int)) = ⟨em.toArray⟩ := by
  simp [strOfNums, Function.comp_def]
/-- string(out[j:]) -/
theorem Buf.string {w : World} {b j : Nat} {em : List UInt8} (h : Buf w b j em) :
    (convert 22 9 (.slice (some ⟨b, j, none⟩) (20 - j) (20 - j))).run Try.prog w = .ok (.string ⟨em.toArray⟩) w := by
  have hl := h.bound
  rw [run_convert_bytes_arg (P := Try.prog) w 22 5 Try.underlying22 Try.underlying5 b j (20 - j) (20 - j) (em.map fun c => (c.toNat : Int)) (by simp; omega) h.read 9 Try.underlying9, strOfNums_bytes]
def DecRel (B : Nat) (w : World) (N : Nat) (a r : Value) (wr : World) : Prop :=
  ∃ (j R : Nat) (em : List UInt8), a = .int .i64 j ∧ r = .int .u64 R ∧ Fits R j ∧ Buf wr B j em ∧ dec N = restD R ++ em ∧ Below B w wr
def Z20 : Array Value := Array.replicate 20 (.int .u8 0)
theorem Z20_size : Z20.size = 20 := by simp [Z20]
theorem run_build20 (w : World) : (Instr.build 123 #[]).run Try.prog w = .ok (.agg Z20) w := run_build w _ _ Z20 (by kernel_rfl)
theorem run_zero20 (w : World) : (zeroValue 123).run Try.prog w = .ok (.agg Z20) w := by kernel_rfl
theorem Z20_plain : Z20.all (·.oneCell') = true := by kernel_rfl
theorem info20 : (Try.prog.info? 123).map (·.size) = some Z20.size := by rw [Z20_size]; kernel_rfl
theorem Buf.fresh (w : World) : Buf ((w.alloc (.cells Z20 123)).setRow w.heap.size Z20) w.heap.size 20 [] :=
  ⟨Z20, setRow_heap _ _ _ _ _ _ (heap_alloc_new w _), Z20_size, rfl, by simp [bytesV, Z20]⟩
theorem dec_pos (n : Nat) : 0 < (dec n).length := by
  by_cases h : n < 10
  · rw [dec_lt h]; simp
  · rw [dec_ge (by omega)]; simp
theorem run_slice20 (u : World) (b j : Nat) (hj : j < 20) : (Instr.sliceAt 123 (.pointer (some ⟨b, 0, none⟩)) (some (.int .i64 j)) none none).run Try.prog u = .ok (.slice (some ⟨b, j, none⟩) (20 - j) (20 - j)) u := by
  have hlen : Try.prog.arrayLen 123 = 20 := by kernel_rfl
  have hel : Try.prog.elem 123 = 5 := by kernel_rfl
  have hs : (sizeOf 5).run Try.prog u = .ok 1 u := by kernel_rfl
  rw [run_sliceAt_array_l u 123 ⟨b, 0, none⟩ (by rw [hlen, hel]; exact Try.underlying123) .i64 j (by omega) (by rw [hlen]; omega), hel, hs, hlen]
  have e : ¬ (20 = j) := by omega
  have e2 : (⟨b, 0, none⟩ : Addr).add j = ⟨b, j, none⟩ := by unfold Addr.add; split <;> simp_all
  simp [slicedAt, e, e2, Result.andThen]
theorem below_fresh (w : World) : Below w.heap.size w ((w.alloc (.cells Z20 123)).setRow w.heap.size Z20) := by
  have h := (Below.refl w.heap.size w).alloc (Nat.le_refl _) (.cells Z20 123)
  exact below_setRow h (Nat.le_refl _) _
set_option maxHeartbeats 1600000 in
theorem decimal_pos (n : Int) (N : Nat) (w : World) (hn : 0 < n) (hu : IntKind.u64.wrap n = (N : Int)) (hN : N = n.natAbs) (hlt : Fits N 20) (hpos : 0 < N) :
    Calls Try.prog 87 #[.int .i64 n] w fun e w' => e = .returned (.string (decIB n)) ∧ Below w.heap.size w w' := by
  have hn0 : (n == 0) = false := by simp; omega
  have hn1 : decide (n < 0) = false := by simp; omega
  have HN := Lib.hid hN
  have hb20 := run_build20
  have ha20 := run_zero20
  clear hN
  go_enter Try.func87, Try.ntmps87
  go_upto_region 3 with (fail)
  go_wp2_with (with_reducible refine wpList_store_row rfl 123 _ _ rfl w.heap.size Z20 rfl rfl 123 Z20 (heap_alloc_new w _) info20 rfl Z20_plain ?_)
  go_loopw [4, 5] (fun a r wr => DecRel w.heap.size w N a r wr) (fun _ r _ => (intOf r).toNat)
  case atStart => exact ⟨20, N, [], rfl, rfl, hlt, Buf.fresh w, by simp [restD]; omega, below_fresh w⟩
  case round =>
    clear hu hb20 ha20
    obtain ⟨j, R, em, rfl, rfl, hRj, hbuf, hdec, hbw⟩ := hrel
    have HD := Lib.hid hdec
    clear hdec
    by_cases hR : 0 < R
    · obtain ⟨i, rfl⟩ := hRj.pos hR
      have hj := hbuf.bound
      have hi : i < 20 := by omega
      obtain ⟨v, hv⟩ := hbuf.has hi
      have hf := hbuf.free i
      have e1 : IntKind.u64.wrap ((R : Int) / 10) = ((R / 10 : Nat) : Int) := hRj.wrap hi
      have hbuf' := hbuf.store (dig (R % 10))
      rw [dig_toNat] at hbuf'
      go_wp2
      go_roundw
      case rel => exact ⟨i, R / 10, _, rfl, vi (by omega), hRj.div, hbuf', by rw [HD.out, restD_pos hR, List.append_assoc]; rfl, hbw.setCell (by simp) _⟩
      case measure => simp [intOf]; omega
    · obtain rfl : R = 0 := by omega
      have hj := hbuf.bound
      have hem : em = dec N := by rw [HD.out]; simp [restD]
      have HE := Lib.hid hem
      clear hem
      have hcs := hbuf.string
      have hsl := run_slice20 wr w.heap.size j (by have := dec_pos N; rw [← HE.out] at this; omega)
      go_wp2
      go_ret
      exact ⟨rs (by rw [HE.out]; unfold decIB decI; rw [if_neg (by omega), HN.out]), hbw⟩
set_option maxHeartbeats 1600000 in
theorem decimal_neg (n : Int) (N : Nat) (w : World) (hn : n < 0) (U : Int) (hu : IntKind.u64.wrap n = U) (hv : IntKind.u64.wrap (-U) = (N : Int)) (h19 : Fits N 19) (hN : N = n.natAbs) (hlt : Fits N 20) (hpos : 0 < N) :
    Calls Try.prog 87 #[.int .i64 n] w fun e w' => e = .returned (.string (decIB n)) ∧ Below w.heap.size w w' := by
  have hn0 : (n == 0) = false := by simp; omega
  have hn1 : decide (n < 0) = true := by simp; omega
  have HN := Lib.hid hN
  have hb20 := run_build20
  have ha20 := run_zero20
  clear hN
  go_enter Try.func87, Try.ntmps87
  go_upto_region 3 with (fail)
  go_wp2_with (with_reducible refine wpList_store_row rfl 123 _ _ rfl w.heap.size Z20 rfl rfl 123 Z20 (heap_alloc_new w _) info20 rfl Z20_plain ?_)
  go_loopw [4, 5] (fun a r wr => DecRel w.heap.size w N a r wr) (fun _ r _ => (intOf r).toNat)
  case atStart => exact ⟨20, N, [], rfl, rfl, hlt, Buf.fresh w, by simp [restD]; omega, below_fresh w⟩
  case round =>
    clear hu hb20 ha20 hv
    obtain ⟨j, R, em, rfl, rfl, hRj, hbuf, hdec, hbw⟩ := hrel
    have HD := Lib.hid hdec
    clear hdec
    by_cases hR : 0 < R
    · obtain ⟨i, rfl⟩ := hRj.pos hR
      have hj := hbuf.bound
      have hi : i < 20 := by omega
      obtain ⟨v, hv⟩ := hbuf.has hi
      have hf := hbuf.free i
      have e1 : IntKind.u64.wrap ((R : Int) / 10) = ((R / 10 : Nat) : Int) := hRj.wrap hi
      have hbuf' := hbuf.store (dig (R % 10))
      rw [dig_toNat] at hbuf'
      go_wp2
      go_roundw
      case rel => exact ⟨i, R / 10, _, rfl, vi (by omega), hRj.div, hbuf', by rw [HD.out, restD_pos hR, List.append_assoc]; rfl, hbw.setCell (by simp) _⟩
      case measure => simp [intOf]; omega
    · obtain rfl : R = 0 := by omega
      have hj := hbuf.bound
      have hem : em = dec N := by rw [HD.out]; simp [restD]
      have HE := Lib.hid hem
      clear hem
      obtain ⟨i, rfl⟩ : ∃ i, j = i + 1 := by
        have h1 : em.length ≤ 19 := by rw [HE.out]; exact dec_length_le 18 N h19
        exact ⟨j - 1, by omega⟩
      have hi : i < 20 := by omega
      obtain ⟨v, hv⟩ := hbuf.has hi
      have hf := hbuf.free i
      have hbuf' := hbuf.store 45
      have h45 : ((45 : UInt8).toNat : Int) = 45 := rfl
      rw [h45] at hbuf'
      have hcs := hbuf'.string
      have hsl := fun u => run_slice20 u w.heap.size i hi
      clear h45
      go_wp2
      go_ret
      exact ⟨rs (by rw [HE.out]; unfold decIB decI; rw [if_pos hn, HN.out]), hbw.setCell (by simp) _⟩
theorem fits_abs {n : Int} (h0 : -9223372036854775808 ≤ n) (h1 : n ≤ 9223372036854775807) : Fits n.natAbs 19 := by
  have h3 : (10 : Nat) ^ 19 = 10000000000000000000 := by decide
  unfold Fits; omega
theorem Fits.up {R j : Nat} (h : Fits R j) : Fits R (j + 1) := by
  unfold Fits at *; rw [Nat.pow_succ]; omega
theorem u64_neg {n : Int} (h0 : -9223372036854775808 ≤ n) (h1 : n < 0) : ∃ U : Int, IntKind.u64.wrap n = U ∧ IntKind.u64.wrap (-U) = (n.natAbs : Int) := by
  refine ⟨n + 18446744073709551616, ?_, ?_⟩
  · simp only [IntKind.wrap, IntKind.bits, IntKind.signed, Bool.false_and, Bool.false_eq_true, if_false]; omega
  · simp only [IntKind.wrap, IntKind.bits, IntKind.signed, Bool.false_and, Bool.false_eq_true, if_false]; omega
theorem decimal_zero (w : World) :
    Calls Try.prog 87 #[.int .i64 0] w fun e w' => e = .returned (.string ⟨#[48]⟩) ∧ w = w' := by
  go_enter Try.func87, Try.ntmps87
  go_wp2
  go_ret
  exact ⟨rfl, rfl⟩
/-- THE CONTRACT of impl.decimal -/
theorem decimal_any (n : Int) (w : World) (h0 : -9223372036854775808 ≤ n) (h1 : n ≤ 9223372036854775807) :
    Calls Try.prog 87 #[.int .i64 n] w fun e w' => e = .returned (.string (decIB n)) ∧ Below w.heap.size w w' := by
  by_cases hz : n = 0
  · subst hz
    refine (decimal_zero w).mono fun e w' ⟨he, hw⟩ => ?_
    subst hw
    refine ⟨?_, Below.refl _ _⟩
    rw [he]
    exact rs (by unfold decIB decI; rw [if_neg (by omega)]; rw [show (0 : Int).natAbs = 0 from rfl, dec_lt (by omega)]; rfl)
  · have hf := fits_abs h0 h1
    by_cases hn : n < 0
    · obtain ⟨U, hu, hv⟩ := u64_neg h0 hn
      exact decimal_neg n n.natAbs w hn U hu hv hf rfl hf.up (by omega)
    · exact decimal_pos n n.natAbs w (by omega) (by rw [IntWalk.u64_in _ (by omega)]; omega) rfl hf.up (by omega)
end Go.Proofs.Ytceobhmbnkheiaa
