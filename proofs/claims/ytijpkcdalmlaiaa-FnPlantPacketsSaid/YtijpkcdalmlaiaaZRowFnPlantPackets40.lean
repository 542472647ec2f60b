/-
  The reference's l09Play, RefusedDeed, HandedOut. With it: The reference's plant: deeds. The reference's l09Asked. The reference's l09Begin.
-/
import Derived.Test.YtijpkcdalmlaiaaZRowFnPlantPackets35
import Derived.Test.YtijpkcdalmlaiaaZRowFnPlantPackets36
import Derived.Test.YtijpkcdalmlaiaaZRowFnPlantPackets39
import Derived.Test.YtijpkcdalmlaiaaZRowFnPlantPackets23
import Derived.Test.YtijpkcdalmlaiaaZRowFnPlantPackets32
import Derived.Test.YtijpkcdalmlaiaaZRowFnPlantPackets7
import Derived.Test.YtijpkcdalmlaiaaZRowFnPlantPackets5
set_option linter.unusedVariables false
set_option linter.unusedSimpArgs false
namespace Go.Proofs.Ytijpkcdalmlaiaa
open Go.RowKit Go.Sort

set_option maxRecDepth 100000 in
set_option maxHeartbeats 4000000 in
theorem RnDo_1 {b sb sm wk n : Nat} {t bs : Int} {sv : Value} {xss : List (List Int)} {M : Nat} {B : Nat → Prop} {S : PS} {vl vr ve vh vw vo : Value} {a : Nat} (w : World) (P : RunIs w b sb B S vl vr ve vh vw vo) (V : SvF M w sb n t sv xss bs sm wk) (hB : ∀ k, B k → M ≤ k) (hI : PInv n sm wk S) (hok : serviceOk n t xss bs sm wk = true) (ha : a ≤ 999) :
    Calls Try.prog 60 #[.pointer (some ⟨b, 0, none⟩), .agg #[.int .i64 1, .int .i64 a]] w (DoR b sb B (doS t xss bs sm wk (1, (a : Int)) S) w) := by
  rw [show doS t xss bs sm wk (1, (a : Int)) S = giveS sm wk a S by unfold doS; simp]
  obtain ⟨hch, hs0, hwk0, hbs⟩ := serviceOk_parts hok
  have hs : 1 ≤ sm ∧ sm ≤ 8 := by omega
  have hwk : 1 ≤ wk ∧ wk ≤ 4 := by omega
  have hn6 : n ≤ 6 := by have := (chainOk_parts0 hch).1; omega
  have HBM := Lib.hid hB
  have HIN := Lib.hid hI
  have b1 : Below w.heap.size w (w.alloc (.cells #[.int .i64 1, .int .i64 a] 68)) := (Below.refl _ _).alloc (Nat.le_refl _) _
  have K1 := Lib.hid (CellsAt.new w [.int .i64 1, .int .i64 a] 68)
  obtain ⟨W1, hW1⟩ : ∃ W1, W1 = w.alloc (.cells #[.int .i64 1, .int .i64 a] 68) := ⟨_, rfl⟩
  rw [show (w.alloc (.cells ([.int .i64 1, .int .i64 a] : List Value).toArray 68)) = W1 from hW1.symm] at K1
  rw [← hW1] at b1
  have P1 := Lib.hid (P.below b1)
  have B1 := Lib.hid b1
  have HB := Lib.hid P.ownB
  have HL := Lib.hid P.ownLt
  have F1 := Lib.hid (Fs.of_below (S := B) b1)
  have HZ1 := Lib.hid (show W1.heap.size = w.heap.size + 1 by rw [hW1]; simp)
  have HW1 := Lib.hid hW1.symm
  have V1 := Lib.hid (V.fs F1.out hB)
  have hbl := P1.out.blt
  have HOK := Lib.hid hok
  clear P b1 hW1 hI V hB hs0 hwk0
  have HCL := Lib.hid (RnWorker_1 W1 P1.out V1.out HBM.out HIN.out hs hwk hch hbs ha)
  generalize (giveS sm wk a S : Int × PS) = R at HCL ⊢
  go_enter Try.func60, Try.ntmps60
  go_wp2_with fail
  rw [HW1.out]
  refine HCL.out.mono ?_
  intro e w3 h
  obtain ⟨rfl, h9⟩ := h.up F1.out
  have HP := Lib.hid h9
  clear h h9
  go_wp2
  go_ret
  exact ⟨rfl, HP.out⟩
set_option maxRecDepth 100000 in
set_option maxHeartbeats 4000000 in
theorem RnDo_2 {b sb sm wk n : Nat} {t bs : Int} {sv : Value} {xss : List (List Int)} {M : Nat} {B : Nat → Prop} {S : PS} {vl vr ve vh vw vo : Value} {a : Nat} (w : World) (P : RunIs w b sb B S vl vr ve vh vw vo) (V : SvF M w sb n t sv xss bs sm wk) (hB : ∀ k, B k → M ≤ k) (hI : PInv n sm wk S) (hok : serviceOk n t xss bs sm wk = true) (ha : a ≤ 999) :
    Calls Try.prog 60 #[.pointer (some ⟨b, 0, none⟩), .agg #[.int .i64 2, .int .i64 a]] w (DoR b sb B (doS t xss bs sm wk (2, (a : Int)) S) w) := by
  rw [show doS t xss bs sm wk (2, (a : Int)) S = workS t xss bs wk a S by unfold doS; simp]
  obtain ⟨hch, hs0, hwk0, hbs⟩ := serviceOk_parts hok
  have hs : 1 ≤ sm ∧ sm ≤ 8 := by omega
  have hwk : 1 ≤ wk ∧ wk ≤ 4 := by omega
  have hn6 : n ≤ 6 := by have := (chainOk_parts0 hch).1; omega
  have HBM := Lib.hid hB
  have HIN := Lib.hid hI
  have b1 : Below w.heap.size w (w.alloc (.cells #[.int .i64 2, .int .i64 a] 68)) := (Below.refl _ _).alloc (Nat.le_refl _) _
  have K1 := Lib.hid (CellsAt.new w [.int .i64 2, .int .i64 a] 68)
  obtain ⟨W1, hW1⟩ : ∃ W1, W1 = w.alloc (.cells #[.int .i64 2, .int .i64 a] 68) := ⟨_, rfl⟩
  rw [show (w.alloc (.cells ([.int .i64 2, .int .i64 a] : List Value).toArray 68)) = W1 from hW1.symm] at K1
  rw [← hW1] at b1
  have P1 := Lib.hid (P.below b1)
  have B1 := Lib.hid b1
  have HB := Lib.hid P.ownB
  have HL := Lib.hid P.ownLt
  have F1 := Lib.hid (Fs.of_below (S := B) b1)
  have HZ1 := Lib.hid (show W1.heap.size = w.heap.size + 1 by rw [hW1]; simp)
  have HW1 := Lib.hid hW1.symm
  have V1 := Lib.hid (V.fs F1.out hB)
  have hbl := P1.out.blt
  have HOK := Lib.hid hok
  clear P b1 hW1 hI V hB hs0 hwk0
  have HCL := Lib.hid (RnWorker_2 W1 P1.out V1.out HBM.out HIN.out hs hwk hch hbs ha)
  generalize (workS t xss bs wk a S : Int × PS) = R at HCL ⊢
  go_enter Try.func60, Try.ntmps60
  go_wp2_with fail
  rw [HW1.out]
  refine HCL.out.mono ?_
  intro e w3 h
  obtain ⟨rfl, h9⟩ := h.up F1.out
  have HP := Lib.hid h9
  clear h h9
  go_wp2
  go_ret
  exact ⟨rfl, HP.out⟩
set_option maxRecDepth 100000 in
set_option maxHeartbeats 4000000 in
theorem RnDo_10 {b sb sm wk n : Nat} {t bs : Int} {sv : Value} {xss : List (List Int)} {M : Nat} {B : Nat → Prop} {S : PS} {vl vr ve vh vw vo : Value} {a : Nat} (w : World) (P : RunIs w b sb B S vl vr ve vh vw vo) (V : SvF M w sb n t sv xss bs sm wk) (hB : ∀ k, B k → M ≤ k) (hI : PInv n sm wk S) (hok : serviceOk n t xss bs sm wk = true) (ha : a ≤ 999) :
    Calls Try.prog 60 #[.pointer (some ⟨b, 0, none⟩), .agg #[.int .i64 10, .int .i64 a]] w (DoR b sb B (doS t xss bs sm wk (10, (a : Int)) S) w) := by
  rw [show doS t xss bs sm wk (10, (a : Int)) S = if (wk : Int) ≤ a then (2, S) else (0, handOff a S) by unfold doS; simp]
  obtain ⟨hch, hs0, hwk0, hbs⟩ := serviceOk_parts hok
  have hs : 1 ≤ sm ∧ sm ≤ 8 := by omega
  have hwk : 1 ≤ wk ∧ wk ≤ 4 := by omega
  have hn6 : n ≤ 6 := by have := (chainOk_parts0 hch).1; omega
  have HBM := Lib.hid hB
  have HIN := Lib.hid hI
  have b1 : Below w.heap.size w (w.alloc (.cells #[.int .i64 10, .int .i64 a] 68)) := (Below.refl _ _).alloc (Nat.le_refl _) _
  have K1 := Lib.hid (CellsAt.new w [.int .i64 10, .int .i64 a] 68)
  obtain ⟨W1, hW1⟩ : ∃ W1, W1 = w.alloc (.cells #[.int .i64 10, .int .i64 a] 68) := ⟨_, rfl⟩
  rw [show (w.alloc (.cells ([.int .i64 10, .int .i64 a] : List Value).toArray 68)) = W1 from hW1.symm] at K1
  rw [← hW1] at b1
  have P1 := Lib.hid (P.below b1)
  have B1 := Lib.hid b1
  have HB := Lib.hid P.ownB
  have HL := Lib.hid P.ownLt
  have F1 := Lib.hid (Fs.of_below (S := B) b1)
  have HZ1 := Lib.hid (show W1.heap.size = w.heap.size + 1 by rw [hW1]; simp)
  have HW1 := Lib.hid hW1.symm
  have V1 := Lib.hid (V.fs F1.out hB)
  have hbl := P1.out.blt
  have HOK := Lib.hid hok
  clear P b1 hW1 hI V hB hs0 hwk0
  have HCL := Lib.hid (RnWorker_10 W1 P1.out V1.out HBM.out HIN.out hs hwk hch hbs ha)
  generalize (if (wk : Int) ≤ a then (2, S) else (0, handOff a S) : Int × PS) = R at HCL ⊢
  go_enter Try.func60, Try.ntmps60
  go_wp2_with fail
  rw [HW1.out]
  refine HCL.out.mono ?_
  intro e w3 h
  obtain ⟨rfl, h9⟩ := h.up F1.out
  have HP := Lib.hid h9
  clear h h9
  go_wp2
  go_ret
  exact ⟨rfl, HP.out⟩
set_option maxRecDepth 100000 in
set_option maxHeartbeats 4000000 in
theorem RnDo_3 {b sb sm wk n : Nat} {t bs : Int} {sv : Value} {xss : List (List Int)} {M : Nat} {B : Nat → Prop} {S : PS} {vl vr ve vh vw vo : Value} {a : Nat} (w : World) (P : RunIs w b sb B S vl vr ve vh vw vo) (V : SvF M w sb n t sv xss bs sm wk) (hB : ∀ k, B k → M ≤ k) (hI : PInv n sm wk S) (hok : serviceOk n t xss bs sm wk = true) (ha : a ≤ 999) :
    Calls Try.prog 60 #[.pointer (some ⟨b, 0, none⟩), .agg #[.int .i64 3, .int .i64 a]] w (DoR b sb B (doS t xss bs sm wk (3, (a : Int)) S) w) := by
  rw [show doS t xss bs sm wk (3, (a : Int)) S = wireS 3 a S by unfold doS; simp]
  obtain ⟨hch, hs0, hwk0, hbs⟩ := serviceOk_parts hok
  have hs : 1 ≤ sm ∧ sm ≤ 8 := by omega
  have hwk : 1 ≤ wk ∧ wk ≤ 4 := by omega
  have hn6 : n ≤ 6 := by have := (chainOk_parts0 hch).1; omega
  have HBM := Lib.hid hB
  have HIN := Lib.hid hI
  have b1 : Below w.heap.size w (w.alloc (.cells #[.int .i64 3, .int .i64 a] 68)) := (Below.refl _ _).alloc (Nat.le_refl _) _
  have K1 := Lib.hid (CellsAt.new w [.int .i64 3, .int .i64 a] 68)
  obtain ⟨W1, hW1⟩ : ∃ W1, W1 = w.alloc (.cells #[.int .i64 3, .int .i64 a] 68) := ⟨_, rfl⟩
  rw [show (w.alloc (.cells ([.int .i64 3, .int .i64 a] : List Value).toArray 68)) = W1 from hW1.symm] at K1
  rw [← hW1] at b1
  have P1 := Lib.hid (P.below b1)
  have B1 := Lib.hid b1
  have HB := Lib.hid P.ownB
  have HL := Lib.hid P.ownLt
  have F1 := Lib.hid (Fs.of_below (S := B) b1)
  have HZ1 := Lib.hid (show W1.heap.size = w.heap.size + 1 by rw [hW1]; simp)
  have HW1 := Lib.hid hW1.symm
  have V1 := Lib.hid (V.fs F1.out hB)
  have hbl := P1.out.blt
  have HOK := Lib.hid hok
  clear P b1 hW1 hI V hB hs0 hwk0
  have HCL := Lib.hid (RnWire_3 (t := t) (bs := bs) (sv := sv) (xss := xss) (M := M) W1 P1.out HIN.out hs ha)
  generalize (wireS 3 a S : Int × PS) = R at HCL ⊢
  go_enter Try.func60, Try.ntmps60
  go_wp2_with fail
  rw [HW1.out]
  refine HCL.out.mono ?_
  intro e w3 h
  obtain ⟨rfl, h9⟩ := h.up F1.out
  have HP := Lib.hid h9
  clear h h9
  go_wp2
  go_ret
  exact ⟨rfl, HP.out⟩
set_option maxRecDepth 100000 in
set_option maxHeartbeats 4000000 in
theorem RnDo_4 {b sb sm wk n : Nat} {t bs : Int} {sv : Value} {xss : List (List Int)} {M : Nat} {B : Nat → Prop} {S : PS} {vl vr ve vh vw vo : Value} {a : Nat} (w : World) (P : RunIs w b sb B S vl vr ve vh vw vo) (V : SvF M w sb n t sv xss bs sm wk) (hB : ∀ k, B k → M ≤ k) (hI : PInv n sm wk S) (hok : serviceOk n t xss bs sm wk = true) (ha : a ≤ 999) :
    Calls Try.prog 60 #[.pointer (some ⟨b, 0, none⟩), .agg #[.int .i64 4, .int .i64 a]] w (DoR b sb B (doS t xss bs sm wk (4, (a : Int)) S) w) := by
  rw [show doS t xss bs sm wk (4, (a : Int)) S = wireS 4 a S by unfold doS; simp]
  obtain ⟨hch, hs0, hwk0, hbs⟩ := serviceOk_parts hok
  have hs : 1 ≤ sm ∧ sm ≤ 8 := by omega
  have hwk : 1 ≤ wk ∧ wk ≤ 4 := by omega
  have hn6 : n ≤ 6 := by have := (chainOk_parts0 hch).1; omega
  have HBM := Lib.hid hB
  have HIN := Lib.hid hI
  have b1 : Below w.heap.size w (w.alloc (.cells #[.int .i64 4, .int .i64 a] 68)) := (Below.refl _ _).alloc (Nat.le_refl _) _
  have K1 := Lib.hid (CellsAt.new w [.int .i64 4, .int .i64 a] 68)
  obtain ⟨W1, hW1⟩ : ∃ W1, W1 = w.alloc (.cells #[.int .i64 4, .int .i64 a] 68) := ⟨_, rfl⟩
  rw [show (w.alloc (.cells ([.int .i64 4, .int .i64 a] : List Value).toArray 68)) = W1 from hW1.symm] at K1
  rw [← hW1] at b1
  have P1 := Lib.hid (P.below b1)
  have B1 := Lib.hid b1
  have HB := Lib.hid P.ownB
  have HL := Lib.hid P.ownLt
  have F1 := Lib.hid (Fs.of_below (S := B) b1)
  have HZ1 := Lib.hid (show W1.heap.size = w.heap.size + 1 by rw [hW1]; simp)
  have HW1 := Lib.hid hW1.symm
  have V1 := Lib.hid (V.fs F1.out hB)
  have hbl := P1.out.blt
  have HOK := Lib.hid hok
  clear P b1 hW1 hI V hB hs0 hwk0
  have HCL := Lib.hid (RnWire_4 (t := t) (bs := bs) (sv := sv) (xss := xss) (M := M) W1 P1.out HIN.out hs ha)
  generalize (wireS 4 a S : Int × PS) = R at HCL ⊢
  go_enter Try.func60, Try.ntmps60
  go_wp2_with fail
  rw [HW1.out]
  refine HCL.out.mono ?_
  intro e w3 h
  obtain ⟨rfl, h9⟩ := h.up F1.out
  have HP := Lib.hid h9
  clear h h9
  go_wp2
  go_ret
  exact ⟨rfl, HP.out⟩
set_option maxRecDepth 100000 in
set_option maxHeartbeats 4000000 in
theorem RnDo_5 {b sb sm wk n : Nat} {t bs : Int} {sv : Value} {xss : List (List Int)} {M : Nat} {B : Nat → Prop} {S : PS} {vl vr ve vh vw vo : Value} {a : Nat} (w : World) (P : RunIs w b sb B S vl vr ve vh vw vo) (V : SvF M w sb n t sv xss bs sm wk) (hB : ∀ k, B k → M ≤ k) (hI : PInv n sm wk S) (hok : serviceOk n t xss bs sm wk = true) (ha : a ≤ 999) :
    Calls Try.prog 60 #[.pointer (some ⟨b, 0, none⟩), .agg #[.int .i64 5, .int .i64 a]] w (DoR b sb B (doS t xss bs sm wk (5, (a : Int)) S) w) := by
  rw [show doS t xss bs sm wk (5, (a : Int)) S = wireS 5 a S by unfold doS; simp]
  obtain ⟨hch, hs0, hwk0, hbs⟩ := serviceOk_parts hok
  have hs : 1 ≤ sm ∧ sm ≤ 8 := by omega
  have hwk : 1 ≤ wk ∧ wk ≤ 4 := by omega
  have hn6 : n ≤ 6 := by have := (chainOk_parts0 hch).1; omega
  have HBM := Lib.hid hB
  have HIN := Lib.hid hI
  have b1 : Below w.heap.size w (w.alloc (.cells #[.int .i64 5, .int .i64 a] 68)) := (Below.refl _ _).alloc (Nat.le_refl _) _
  have K1 := Lib.hid (CellsAt.new w [.int .i64 5, .int .i64 a] 68)
  obtain ⟨W1, hW1⟩ : ∃ W1, W1 = w.alloc (.cells #[.int .i64 5, .int .i64 a] 68) := ⟨_, rfl⟩
  rw [show (w.alloc (.cells ([.int .i64 5, .int .i64 a] : List Value).toArray 68)) = W1 from hW1.symm] at K1
  rw [← hW1] at b1
  have P1 := Lib.hid (P.below b1)
  have B1 := Lib.hid b1
  have HB := Lib.hid P.ownB
  have HL := Lib.hid P.ownLt
  have F1 := Lib.hid (Fs.of_below (S := B) b1)
  have HZ1 := Lib.hid (show W1.heap.size = w.heap.size + 1 by rw [hW1]; simp)
  have HW1 := Lib.hid hW1.symm
  have V1 := Lib.hid (V.fs F1.out hB)
  have hbl := P1.out.blt
  have HOK := Lib.hid hok
  clear P b1 hW1 hI V hB hs0 hwk0
  have HCL := Lib.hid (RnWire_5 (t := t) (bs := bs) (sv := sv) (xss := xss) (M := M) W1 P1.out HIN.out hs ha)
  generalize (wireS 5 a S : Int × PS) = R at HCL ⊢
  go_enter Try.func60, Try.ntmps60
  go_wp2_with fail
  rw [HW1.out]
  refine HCL.out.mono ?_
  intro e w3 h
  obtain ⟨rfl, h9⟩ := h.up F1.out
  have HP := Lib.hid h9
  clear h h9
  go_wp2
  go_ret
  exact ⟨rfl, HP.out⟩
set_option maxRecDepth 100000 in
set_option maxHeartbeats 4000000 in
theorem RnDo_7 {b sb sm wk n : Nat} {t bs : Int} {sv : Value} {xss : List (List Int)} {M : Nat} {B : Nat → Prop} {S : PS} {vl vr ve vh vw vo : Value} {a : Nat} (w : World) (P : RunIs w b sb B S vl vr ve vh vw vo) (V : SvF M w sb n t sv xss bs sm wk) (hB : ∀ k, B k → M ≤ k) (hI : PInv n sm wk S) (hok : serviceOk n t xss bs sm wk = true) (ha : a ≤ 999) :
    Calls Try.prog 60 #[.pointer (some ⟨b, 0, none⟩), .agg #[.int .i64 7, .int .i64 a]] w (DoR b sb B (doS t xss bs sm wk (7, (a : Int)) S) w) := by
  rw [show doS t xss bs sm wk (7, (a : Int)) S = outS sm S by unfold doS; simp]
  obtain ⟨hch, hs0, hwk0, hbs⟩ := serviceOk_parts hok
  have hs : 1 ≤ sm ∧ sm ≤ 8 := by omega
  have hwk : 1 ≤ wk ∧ wk ≤ 4 := by omega
  have hn6 : n ≤ 6 := by have := (chainOk_parts0 hch).1; omega
  have HBM := Lib.hid hB
  have HIN := Lib.hid hI
  have b1 : Below w.heap.size w (w.alloc (.cells #[.int .i64 7, .int .i64 a] 68)) := (Below.refl _ _).alloc (Nat.le_refl _) _
  have K1 := Lib.hid (CellsAt.new w [.int .i64 7, .int .i64 a] 68)
  obtain ⟨W1, hW1⟩ : ∃ W1, W1 = w.alloc (.cells #[.int .i64 7, .int .i64 a] 68) := ⟨_, rfl⟩
  rw [show (w.alloc (.cells ([.int .i64 7, .int .i64 a] : List Value).toArray 68)) = W1 from hW1.symm] at K1
  rw [← hW1] at b1
  have P1 := Lib.hid (P.below b1)
  have B1 := Lib.hid b1
  have HB := Lib.hid P.ownB
  have HL := Lib.hid P.ownLt
  have F1 := Lib.hid (Fs.of_below (S := B) b1)
  have HZ1 := Lib.hid (show W1.heap.size = w.heap.size + 1 by rw [hW1]; simp)
  have HW1 := Lib.hid hW1.symm
  have V1 := Lib.hid (V.fs F1.out hB)
  have hbl := P1.out.blt
  have HOK := Lib.hid hok
  clear P b1 hW1 hI V hB hs0 hwk0
  have HCL := Lib.hid (RnOut_any W1 P1.out V1.out HIN.out hs)
  generalize (outS sm S : Int × PS) = R at HCL ⊢
  go_enter Try.func60, Try.ntmps60
  go_wp2_with fail
  rw [HW1.out]
  refine HCL.out.mono ?_
  intro e w3 h
  obtain ⟨rfl, h9⟩ := h.up F1.out
  have HP := Lib.hid h9
  clear h h9
  go_wp2
  go_ret
  exact ⟨rfl, HP.out⟩
set_option maxRecDepth 100000 in
set_option maxHeartbeats 4000000 in
theorem RnDo_9 {b sb sm wk n : Nat} {t bs : Int} {sv : Value} {xss : List (List Int)} {M : Nat} {B : Nat → Prop} {S : PS} {vl vr ve vh vw vo : Value} {a : Nat} (w : World) (P : RunIs w b sb B S vl vr ve vh vw vo) (V : SvF M w sb n t sv xss bs sm wk) (hB : ∀ k, B k → M ≤ k) (hI : PInv n sm wk S) (hok : serviceOk n t xss bs sm wk = true) (ha : a ≤ 999) :
    Calls Try.prog 60 #[.pointer (some ⟨b, 0, none⟩), .agg #[.int .i64 9, .int .i64 a]] w (DoR b sb B (doS t xss bs sm wk (9, (a : Int)) S) w) := by
  rw [show doS t xss bs sm wk (9, (a : Int)) S = if S.sy = S.recs.length then (4, S) else (0, crashS sm S) by unfold doS; simp]
  obtain ⟨hch, hs0, hwk0, hbs⟩ := serviceOk_parts hok
  have hs : 1 ≤ sm ∧ sm ≤ 8 := by omega
  have hwk : 1 ≤ wk ∧ wk ≤ 4 := by omega
  have hn6 : n ≤ 6 := by have := (chainOk_parts0 hch).1; omega
  have HBM := Lib.hid hB
  have HIN := Lib.hid hI
  have b1 : Below w.heap.size w (w.alloc (.cells #[.int .i64 9, .int .i64 a] 68)) := (Below.refl _ _).alloc (Nat.le_refl _) _
  have K1 := Lib.hid (CellsAt.new w [.int .i64 9, .int .i64 a] 68)
  obtain ⟨W1, hW1⟩ : ∃ W1, W1 = w.alloc (.cells #[.int .i64 9, .int .i64 a] 68) := ⟨_, rfl⟩
  rw [show (w.alloc (.cells ([.int .i64 9, .int .i64 a] : List Value).toArray 68)) = W1 from hW1.symm] at K1
  rw [← hW1] at b1
  have P1 := Lib.hid (P.below b1)
  have B1 := Lib.hid b1
  have HB := Lib.hid P.ownB
  have HL := Lib.hid P.ownLt
  have F1 := Lib.hid (Fs.of_below (S := B) b1)
  have HZ1 := Lib.hid (show W1.heap.size = w.heap.size + 1 by rw [hW1]; simp)
  have HW1 := Lib.hid hW1.symm
  have V1 := Lib.hid (V.fs F1.out hB)
  have hbl := P1.out.blt
  have HOK := Lib.hid hok
  clear P b1 hW1 hI V hB hs0 hwk0
  have HCL := Lib.hid (RnTear_any W1 P1.out V1.out HBM.out HIN.out hs HOK.out hn6)
  generalize (if S.sy = S.recs.length then (4, S) else (0, crashS sm S) : Int × PS) = R at HCL ⊢
  go_enter Try.func60, Try.ntmps60
  go_wp2_with fail
  rw [HW1.out]
  refine HCL.out.mono ?_
  intro e w3 h
  obtain ⟨rfl, h9⟩ := h.up F1.out
  have HP := Lib.hid h9
  clear h h9
  go_wp2
  go_ret
  exact ⟨rfl, HP.out⟩
set_option maxRecDepth 100000 in
set_option maxHeartbeats 4000000 in
theorem RnDo_6 {b sb sm wk n : Nat} {t bs : Int} {sv : Value} {xss : List (List Int)} {M : Nat} {B : Nat → Prop} {S : PS} {vl vr ve vh vw vo : Value} {a : Nat} (w : World) (P : RunIs w b sb B S vl vr ve vh vw vo) (V : SvF M w sb n t sv xss bs sm wk) (hB : ∀ k, B k → M ≤ k) (hI : PInv n sm wk S) (hok : serviceOk n t xss bs sm wk = true) (ha : a ≤ 999) :
    Calls Try.prog 60 #[.pointer (some ⟨b, 0, none⟩), .agg #[.int .i64 6, .int .i64 a]] w (DoR b sb B (doS t xss bs sm wk (6, (a : Int)) S) w) := by
  rw [show doS t xss bs sm wk (6, (a : Int)) S = (0, { S with sy := S.recs.length }) by unfold doS; simp]
  obtain ⟨hch, hs0, hwk0, hbs⟩ := serviceOk_parts hok
  have hs : 1 ≤ sm ∧ sm ≤ 8 := by omega
  have hwk : 1 ≤ wk ∧ wk ≤ 4 := by omega
  have hn6 : n ≤ 6 := by have := (chainOk_parts0 hch).1; omega
  have HBM := Lib.hid hB
  have HIN := Lib.hid hI
  have b1 : Below w.heap.size w (w.alloc (.cells #[.int .i64 6, .int .i64 a] 68)) := (Below.refl _ _).alloc (Nat.le_refl _) _
  have K1 := Lib.hid (CellsAt.new w [.int .i64 6, .int .i64 a] 68)
  obtain ⟨W1, hW1⟩ : ∃ W1, W1 = w.alloc (.cells #[.int .i64 6, .int .i64 a] 68) := ⟨_, rfl⟩
  rw [show (w.alloc (.cells ([.int .i64 6, .int .i64 a] : List Value).toArray 68)) = W1 from hW1.symm] at K1
  rw [← hW1] at b1
  have P1 := Lib.hid (P.below b1)
  have B1 := Lib.hid b1
  have HB := Lib.hid P.ownB
  have HL := Lib.hid P.ownLt
  have F1 := Lib.hid (Fs.of_below (S := B) b1)
  have HZ1 := Lib.hid (show W1.heap.size = w.heap.size + 1 by rw [hW1]; simp)
  have HW1 := Lib.hid hW1.symm
  have V1 := Lib.hid (V.fs F1.out hB)
  have hbl := P1.out.blt
  have HOK := Lib.hid hok
  clear P b1 hW1 hI V hB hs0 hwk0
  obtain ⟨ea, ec, rfl, _, _⟩ := P1.out.oe.shape
  have P3 := Lib.hid (P1.out.number S.recs.length)
  have F3 := Lib.hid (F1.out.set (a := ⟨b, 1 + 4, none⟩) (HB.out b ⟨0, rfl⟩) (.int .i64 S.recs.length))
  obtain ⟨⟨_, _, _, _, q3⟩, q4, _⟩ := P1.out.get
  have f4 := P1.out.fz 5
  go_enter Try.func60, Try.ntmps60
  go_upto_region 8 with (fail)
  rw [HW1.out]
  go_wp2
  go_ret
  exact DoR.mk rfl (P3.out.mono (fun k hk => .inl hk)) F3.out
set_option maxRecDepth 100000 in
set_option maxHeartbeats 4000000 in
theorem RnDo_8 {b sb sm wk n : Nat} {t bs : Int} {sv : Value} {xss : List (List Int)} {M : Nat} {B : Nat → Prop} {S : PS} {vl vr ve vh vw vo : Value} {a : Nat} (w : World) (P : RunIs w b sb B S vl vr ve vh vw vo) (V : SvF M w sb n t sv xss bs sm wk) (hB : ∀ k, B k → M ≤ k) (hI : PInv n sm wk S) (hok : serviceOk n t xss bs sm wk = true) (ha : a ≤ 999) :
    Calls Try.prog 60 #[.pointer (some ⟨b, 0, none⟩), .agg #[.int .i64 8, .int .i64 a]] w (DoR b sb B (doS t xss bs sm wk (8, (a : Int)) S) w) := by
  rw [show doS t xss bs sm wk (8, (a : Int)) S = (0, crashS sm S) by unfold doS; simp]
  obtain ⟨hch, hs0, hwk0, hbs⟩ := serviceOk_parts hok
  have hs : 1 ≤ sm ∧ sm ≤ 8 := by omega
  have hwk : 1 ≤ wk ∧ wk ≤ 4 := by omega
  have hn6 : n ≤ 6 := by have := (chainOk_parts0 hch).1; omega
  have HBM := Lib.hid hB
  have HIN := Lib.hid hI
  have b1 : Below w.heap.size w (w.alloc (.cells #[.int .i64 8, .int .i64 a] 68)) := (Below.refl _ _).alloc (Nat.le_refl _) _
  have K1 := Lib.hid (CellsAt.new w [.int .i64 8, .int .i64 a] 68)
  obtain ⟨W1, hW1⟩ : ∃ W1, W1 = w.alloc (.cells #[.int .i64 8, .int .i64 a] 68) := ⟨_, rfl⟩
  rw [show (w.alloc (.cells ([.int .i64 8, .int .i64 a] : List Value).toArray 68)) = W1 from hW1.symm] at K1
  rw [← hW1] at b1
  have P1 := Lib.hid (P.below b1)
  have B1 := Lib.hid b1
  have HB := Lib.hid P.ownB
  have HL := Lib.hid P.ownLt
  have F1 := Lib.hid (Fs.of_below (S := B) b1)
  have HZ1 := Lib.hid (show W1.heap.size = w.heap.size + 1 by rw [hW1]; simp)
  have HW1 := Lib.hid hW1.symm
  have V1 := Lib.hid (V.fs F1.out hB)
  have hbl := P1.out.blt
  have HOK := Lib.hid hok
  clear P b1 hW1 hI V hB hs0 hwk0
  obtain ⟨ea, ec, rfl, hec, _⟩ := P1.out.oe.shape
  obtain ⟨_, l0, r0, hla, hcr⟩ := HIN.out.crash
  have HLA := Lib.hid hla
  have HCR := Lib.hid hcr
  have HSY := Lib.hid HIN.out.sy
  have hsy := HSY.out
  have s0 : (0 : Int) ≤ (S.sy : Int) := by omega
  have s1 : (S.sy : Int) ≤ (ec : Int) := by omega
  have CW := Lib.hid (show ∀ W, Below W1.heap.size W1 W → (W.cell? ⟨b, 4, none⟩ = some (.slice ea S.recs.length ec) ∧ W.cell? ⟨b, 5, none⟩ = some (.int .i64 S.sy)) from fun W h => ⟨(P1.out.below h).get.1.2.2.2.2, (P1.out.below h).get.2.1⟩)
  clear hla hcr
  go_enter Try.func60, Try.ntmps60
  go_wp2_with fail
  rw [HW1.out]
  refine wpX_start (fun W => W.cell? ⟨b, 4, none⟩ = some (.slice ea S.recs.length ec) ∧ W.cell? ⟨b, 5, none⟩ = some (.int .i64 S.sy)) [12] (by kernel_rfl) ?_
  have hC := CW.out W1.drew (Below.refl W1.heap.size W1).drew
  refine wpX_free (i := 0) (v := ?_) rfl (by kernel_rfl) (fun _ _ _ h => h) rfl (fun w' => ?_) ?_
  rotate_left
  · go_simp; try with_reducible rfl
  try simp only [Act.put, List.setIfInBounds_toArray, List.set_cons_zero, List.set_cons_succ]
  refine wpX_free (i := 1) (v := ?_) rfl (by kernel_rfl) (fun _ _ _ h => h) rfl (fun w' => ?_) ?_
  rotate_left
  · go_simp; try with_reducible rfl
  try simp only [Act.put, List.setIfInBounds_toArray, List.set_cons_zero, List.set_cons_succ]
  refine wpX_free (i := 2) (v := ?_) rfl (by kernel_rfl) (fun _ _ _ h => h) rfl (fun w' => ?_) ?_
  rotate_left
  · go_simp; try with_reducible rfl
  try simp only [Act.put, List.setIfInBounds_toArray, List.set_cons_zero, List.set_cons_succ]
  refine wpX_free (i := 3) (v := ?_) rfl (by kernel_rfl) (fun _ _ _ h => h) rfl (fun w' => ?_) ?_
  rotate_left
  · go_simp; try with_reducible rfl
  try simp only [Act.put, List.setIfInBounds_toArray, List.set_cons_zero, List.set_cons_succ]
  refine wpX_free (i := 4) (v := ?_) rfl (by kernel_rfl) (fun _ _ _ h => h) rfl (fun w' => ?_) ?_
  rotate_left
  · go_simp; try with_reducible rfl
  try simp only [Act.put, List.setIfInBounds_toArray, List.set_cons_zero, List.set_cons_succ]
  refine wpX_load (i := 5) (v := ?_) rfl (by kernel_rfl) (fun _ _ _ h => h) hC rfl (fun w' hw' => ?_) ?_
  rotate_left
  · obtain ⟨k1, k2⟩ := hw'; go_simp; try with_reducible rfl
  try simp only [Act.put, List.setIfInBounds_toArray, List.set_cons_zero, List.set_cons_succ]
  refine wpX_free (i := 6) (v := ?_) rfl (by kernel_rfl) (fun _ _ _ h => h) rfl (fun w' => ?_) ?_
  rotate_left
  · go_simp; try with_reducible rfl
  try simp only [Act.put, List.setIfInBounds_toArray, List.set_cons_zero, List.set_cons_succ]
  refine wpX_free (i := 7) (v := ?_) rfl (by kernel_rfl) (fun _ _ _ h => h) rfl (fun w' => ?_) ?_
  rotate_left
  · go_simp; try with_reducible rfl
  try simp only [Act.put, List.setIfInBounds_toArray, List.set_cons_zero, List.set_cons_succ]
  refine wpX_free (i := 8) (v := ?_) rfl (by kernel_rfl) (fun _ _ _ h => h) rfl (fun w' => ?_) ?_
  rotate_left
  · go_simp; try with_reducible rfl
  try simp only [Act.put, List.setIfInBounds_toArray, List.set_cons_zero, List.set_cons_succ]
  refine wpX_free (i := 9) (v := ?_) rfl (by kernel_rfl) (fun _ _ _ h => h) rfl (fun w' => ?_) ?_
  rotate_left
  · go_simp; try with_reducible rfl
  try simp only [Act.put, List.setIfInBounds_toArray, List.set_cons_zero, List.set_cons_succ]
  refine wpX_load (i := 10) (v := ?_) rfl (by kernel_rfl) (fun _ _ _ h => h) hC rfl (fun w' hw' => ?_) ?_
  rotate_left
  · obtain ⟨k1, k2⟩ := hw'; go_simp; try with_reducible rfl
  try simp only [Act.put, List.setIfInBounds_toArray, List.set_cons_zero, List.set_cons_succ]
  refine wpX_free (i := 11) (v := ?_) rfl (by kernel_rfl) (fun _ _ _ h => h) rfl (fun w' => ?_) ?_
  rotate_left
  · go_simp; try with_reducible rfl
  try simp only [Act.put, List.setIfInBounds_toArray, List.set_cons_zero, List.set_cons_succ]
  refine wpX_rest (t := [12]) (l := [_]) rfl (by kernel_rfl) (by kernel_rfl) ?_
  clear hC
  have P2 := Lib.hid (P1.out.below (Below.refl W1.heap.size W1).drew)
  have F2 := Lib.hid (F1.out.trans (Fs.of_below (Below.refl W1.heap.size W1).drew))
  have V2 := Lib.hid (V1.out.step ((Below.refl W1.heap.size W1).drew.mono V1.out.le))
  go_wp2_with fail
  refine (RnBack_any (rs := S.recs.take S.sy) _ P2.out V2.out HBM.out (fun W hF => Flat.Sl.take' (own_fs P2.out.oe hF (fun g hg e => P2.out.hold.ne_box (i := 2) rfl (by rw [← e]; exact hg))).sl HSY.out) HLA.out (fun x hx => HIN.out.recs x (List.mem_of_mem_take hx)) hs hn6).mono ?_
  rintro e w3 ⟨rfl, ⟨_, _, _, _, _, _, P3⟩, F3⟩
  rw [show (S.recs.take S.sy).length = S.sy by rw [List.length_take]; have := HSY.out; omega] at P3
  have P3 := Lib.hid (P3.mono (Bm.mono F2.out.size))
  have F3 := Lib.hid (F2.out.trans F3)
  go_wp2
  go_ret
  exact DoR.mk (congrArg (fun T => ((0 : Int), T)) HCR.out) P3.out F3.out
/-- a valid deed is done -/
theorem RnDo_any {b sb sm wk n : Nat} {t bs : Int} {sv : Value} {xss : List (List Int)} {M : Nat} {B : Nat → Prop} {S : PS} {vl vr ve vh vw vo : Value} (w : World) (P : RunIs w b sb B S vl vr ve vh vw vo) (V : SvF M w sb n t sv xss bs sm wk) (hB : ∀ k, B k → M ≤ k) (hI : PInv n sm wk S) (hok : serviceOk n t xss bs sm wk = true) (k a0 : Int) (hd : deedOk k a0 = true) :
    Calls Try.prog 60 #[.pointer (some ⟨b, 0, none⟩), .agg #[.int .i64 k, .int .i64 a0]] w (DoR b sb B (doS t xss bs sm wk (k, a0) S) w) := by
  unfold deedOk at hd
  rw [Bool.and_eq_true, Bool.and_eq_true] at hd
  obtain ⟨hk, h1, _⟩ := hd
  obtain ⟨h2, h3⟩ := inR_iff.1 h1
  obtain ⟨a, rfl⟩ := Int.eq_ofNat_of_zero_le h2
  have ha : a ≤ 999 := by omega
  rcases kind_cases hk with rfl | rfl | rfl | rfl | rfl | rfl | rfl | rfl | rfl | rfl
  · exact RnDo_1 w P V hB hI hok ha
  · exact RnDo_2 w P V hB hI hok ha
  · exact RnDo_3 w P V hB hI hok ha
  · exact RnDo_4 w P V hB hI hok ha
  · exact RnDo_5 w P V hB hI hok ha
  · exact RnDo_6 w P V hB hI hok ha
  · exact RnDo_7 w P V hB hI hok ha
  · exact RnDo_8 w P V hB hI hok ha
  · exact RnDo_9 w P V hB hI hok ha
  · exact RnDo_10 w P V hB hI hok ha
end Go.Proofs.Ytijpkcdalmlaiaa
namespace Go.Proofs.Ytijpkcdalmlaiaa
open Go.RowKit Go.Sort
theorem deedsOk_of {ds : List (Int × Int)} (h : ∀ d ∈ ds, deedOk d.1 d.2 = true) : deedsOk ds = true := by
  unfold deedsOk
  rw [Bool.not_eq_true', List.any_eq_false]
  intro d hd
  rw [h d hd]; decide
theorem deedsOk_not {ds : List (Int × Int)} {d : Int × Int} (hd : d ∈ ds) (h : deedOk d.1 d.2 = false) : deedsOk ds = false := by
  cases hh : deedsOk ds with
  | false => rfl
  | true => rw [deedsOk_all hh d hd] at h; exact absurd h (by decide)

set_option maxRecDepth 100000 in
set_option maxHeartbeats 4000000 in
theorem l09Asked_any {u : Value} {xss : List (List Int)} {ds : List (Int × Int)} {rv : Value} (b : Nat) (n t bs sm wk : Int) (w : World) (hc : ServAt w b 0 n t u bs sm wk) (ha : SlII w u xss) (hr : FDeed.Sl w rv ds) :
    Calls Try.prog 40 #[.pointer (some ⟨b, 0, none⟩), rv] w fun e w' => e = .returned (.int .i64 (dcode n t xss bs sm wk ds)) ∧ Below w.heap.size w w' := by
  have HR := Lib.hid (fun W (h : Below w.heap.size w W) => hr.below h)
  obtain ⟨ra, rc, rfl, hrc, hrc2, _⟩ := id hr
  unfold maxLen at hrc2
  have K := Lib.hid (l09Ok_any b 0 n t bs sm wk w hc ha)
  generalize hq : serviceOk n t xss bs sm wk = q at K
  have HQ := Lib.hid hq
  clear hq hr hc ha
  cases q
  · have HF := Lib.hid (show dcode n t xss bs sm wk ds = 1 by unfold dcode; rw [HQ.out]; rfl)
    clear HQ
    go_enter Try.func40, Try.ntmps40
    go_wp2_with fail
    refine K.out.mono ?_
    rintro e w1 ⟨rfl, b1⟩
    go_wp2
    go_ret
    exact ⟨by rw [HF.out]; rfl, b1⟩
  · go_enter Try.func40, Try.ntmps40
    go_wp2_with fail
    refine K.out.mono ?_
    rintro e w1 ⟨rfl, b1⟩
    have B1 := Lib.hid b1
    clear b1 K
    go_wp2
    go_loopw [5] (fun i wr => ∃ k : Nat, k ≤ ds.length ∧ i = .int .i64 k ∧ (∀ d ∈ ds.take k, deedOk d.1 d.2 = true) ∧ Below w.heap.size w wr) (fun i _ => ds.length - (intOf i).toNat)
    case atStart => exact ⟨0, Nat.zero_le _, rfl, fun d h => by simp at h, B1.out⟩
    case round =>
      obtain ⟨k, hk, rfl, hall, hb⟩ := hrel
      have HAL := Lib.hid hall
      have HB := Lib.hid hb
      clear hall
      by_cases hlt : k < ds.length
      · obtain ⟨db, do', rfl, _, c0, c1⟩ := FDeed_at (HR.out _ hb) hlt
        have i1 : (k : Int) < (ds.length : Int) := by omega
        have hm := List.getElem_mem hlt
        have ht := List.take_succ_eq_append_getElem hlt
        generalize ds[k] = d at c0 c1 hm ht
        obtain ⟨dk, da⟩ := d
        dsimp only at c0 c1
        have HT := Lib.hid ht
        have HM := Lib.hid hm
        have KD := Lib.hid (l09Deed_any dk da wr)
        generalize ho : deedOk dk da = ok at KD
        have HO := Lib.hid ho
        clear ht hm ho
        go_wp2_with fail
        refine KD.out.mono ?_
        rintro e w2 ⟨rfl, b2⟩
        have HB2 := Lib.hid (HB.out.trans (b2.mono HB.out.size))
        clear b2 KD c0 c1
        cases ok
        · have HF := Lib.hid (show dcode n t xss bs sm wk ds = 1 by unfold dcode; rw [HQ.out, deedsOk_not HM.out HO.out]; rfl)
          clear HO HM HT HQ
          go_wp2
          go_ret
          exact ⟨by rw [HF.out]; rfl, HB2.out⟩
        · go_wp2
          go_roundw
          case rel =>
            refine ⟨k + 1, by omega, by go_num, fun d hd => ?_, HB2.out⟩
            rw [HT.out, List.mem_append] at hd
            rcases hd with hd | hd
            · exact HAL.out d hd
            · simp only [List.mem_singleton] at hd
              subst hd
              exact HO.out
          case measure => simp [intOf]; omega
      · obtain rfl : k = ds.length := by omega
        have hall := HAL.out
        rw [List.take_length] at hall
        have HD := Lib.hid (deedsOk_of hall)
        clear hall HAL
        by_cases h4 : 400 < ds.length
        · have i4 : (400 : Int) < (ds.length : Int) := by omega
          have HF := Lib.hid (show dcode n t xss bs sm wk ds = 2 by unfold dcode; rw [HQ.out, HD.out]; simp [h4])
          clear HQ HD
          go_wp2
          go_ret
          exact ⟨by rw [HF.out]; rfl, HB.out⟩
        · have i4 : (ds.length : Int) ≤ 400 := by omega
          have HF := Lib.hid (show dcode n t xss bs sm wk ds = 0 by unfold dcode; rw [HQ.out, HD.out]; simp [h4])
          clear HQ HD
          go_wp2
          go_ret
          exact ⟨by rw [HF.out]; rfl, HB.out⟩
end Go.Proofs.Ytijpkcdalmlaiaa
namespace Go.Proofs.Ytijpkcdalmlaiaa
open Go.RowKit Go.Sort
theorem PlV.atBox {w : World} {b o : Nat} {B : Nat → Prop} {S : PS} {vl vr ve vh vw vo : Value} (h : PlV w B S vl vr ve vh vw vo) (hb : b < w.heap.size) (hB : ¬ B b) (hx : ∀ (i : Nat) (u : Value), (slots S vl vr ve vh vw vo)[i]? = some u → w.cell? ⟨b, o + i, none⟩ = some u) (hz : ∀ i, w.frozen? ⟨b, i, none⟩ = false) : PlIs w b o (fun k => k = b ∨ B k) S vl vr ve vh vw vo := by
  refine ⟨hx, hz, ⟨hb, h.own, ?_⟩, ?_, h.len, h.pos⟩
  · intro i j g hi hj
    cases i with
    | zero =>
      cases j with
      | zero => rfl
      | succ j =>
        simp at hi
        subst hi
        exact absurd (h.inB j b (by simpa using hj)) hB
    | succ i =>
      cases j with
      | zero =>
        simp at hj
        subst hj
        exact absurd (h.inB i b (by simpa using hi)) hB
      | succ j => have := h.sep i j g (by simpa using hi) (by simpa using hj); omega
  · intro j g hj
    cases j with
    | zero => simp at hj; exact .inl hj.symm
    | succ j => exact .inr (h.inB j g (by simpa using hj))

set_option maxRecDepth 100000 in
set_option maxHeartbeats 4000000 in
theorem l09Begin_any {sb n sm wk : Nat} {t bs : Int} {sv : Value} (w : World) (V : ServAt w sb 0 n t sv bs sm wk) (hs : 1 ≤ sm ∧ sm ≤ 8) (hwk : 1 ≤ wk ∧ wk ≤ 4) :
    Calls Try.prog 57 #[.pointer (some ⟨sb, 0, none⟩)] w fun e w' => e = .returned (.pointer (some ⟨w.heap.size, 0, none⟩)) ∧ (∃ vl vr ve vh vw vo, RunIs w' w.heap.size sb (fun k => w.heap.size ≤ k) (newS sm wk) vl vr ve vh vw vo) ∧ Below w.heap.size w w' := by
  have HV := Lib.hid (fun W (h : Below w.heap.size w W) => servCells (V.below h))
  have bx : Below w.heap.size w (w.alloc (.cells #[.pointer (some ⟨sb, 0, none⟩), .slice none 0 0, .slice none 0 0, .int .i64 0, .slice none 0 0, .int .i64 0, .slice none 0 0, .slice none 0 0, .slice none 0 0] 83)) := (Below.refl _ _).alloc (Nat.le_refl _) _
  have K0 := Lib.hid (CellsAt.new w [.pointer (some ⟨sb, 0, none⟩), .slice none 0 0, .slice none 0 0, .int .i64 0, .slice none 0 0, .int .i64 0, .slice none 0 0, .slice none 0 0, .slice none 0 0] 83)
  have QF := Lib.hid (show ∀ W, Below (w.heap.size + 1) (w.alloc (.cells #[.pointer (some ⟨sb, 0, none⟩), .slice none 0 0, .slice none 0 0, .int .i64 0, .slice none 0 0, .int .i64 0, .slice none 0 0, .slice none 0 0, .slice none 0 0] 83)) W → ∀ i : Nat, W.frozen? ⟨w.heap.size, i, none⟩ = false from fun W h i => by
    rw [h.frozen (p := ⟨w.heap.size, i, none⟩) (by simp)]
    simp [go_sem])
  have KF := Lib.hid (l09Fresh_any sb 0 sm n t bs wk (w.alloc (.cells #[.pointer (some ⟨sb, 0, none⟩), .slice none 0 0, .slice none 0 0, .int .i64 0, .slice none 0 0, .int .i64 0, .slice none 0 0, .slice none 0 0, .slice none 0 0] 83)) (V.below bx) (by omega))
  have BX := Lib.hid bx
  clear V bx
  go_enter Try.func57, Try.ntmps57
  go_wp2_with fail
  refine KF.out.mono ?_
  rintro e w1 ⟨vl, vr, rfl, p, b1⟩
  obtain ⟨gl, cl, gr, cr, rfl, rfl, hgne, _⟩ := DeskIs.of_pair p hs.1
  have K1 := K0.out.below b1
  have k0 := K1.get 0 _ rfl
  have k1 := K1.get 1 _ rfl
  have k2 := K1.get 2 _ rfl
  have k3 := K1.get 3 _ rfl
  have k4 := K1.get 4 _ rfl
  have k5 := K1.get 5 _ rfl
  have k6 := K1.get 6 _ rfl
  have k7 := K1.get 7 _ rfl
  have k8 := K1.get 8 _ rfl
  have hlt : w.heap.size < w1.heap.size := K1.1
  have hf := QF.out w1 (b1.mono (by simp))
  have hz1 : (w.alloc (.cells #[.pointer (some ⟨sb, 0, none⟩), .slice none 0 0, .slice none 0 0, .int .i64 0, .slice none 0 0, .int .i64 0, .slice none 0 0, .slice none 0 0, .slice none 0 0] 83)).heap.size = w.heap.size + 1 := by simp
  have f1 := hf 1
  have f2 := hf 2
  have f3 := hf 3
  have hv := newS_val (wk := 0) p (vh := .slice none 0 0) (Flat.Own.nil _ _) (fun g hg => by simp [Value.ownBlock] at hg) hs.1
  obtain ⟨W2, hW2⟩ : ∃ W2, W2 = ((w1.setCell ⟨w.heap.size, 1, none⟩ (.slice (some ⟨gl, 0, none⟩) sm cl)).setCell ⟨w.heap.size, 2, none⟩ (.slice (some ⟨gr, 0, none⟩) sm cr)).setCell ⟨w.heap.size, 3, none⟩ (.int .i64 0) := ⟨_, rfl⟩
  have fs2 : Fs (fun k => k = w.heap.size) w1 W2 := by
    rw [hW2]
    repeat (refine Fs.set (S := fun k => k = w.heap.size) ?_ rfl _)
    exact Fs.refl _ _
  have b2 : Below w.heap.size w W2 := (BX.out.trans (b1.mono (by simp))).trans (fs2.below (Nat.le_of_lt hlt) (fun k h => by omega))
  have hv2 := hv.fs fs2 (fun k hk h => by omega)
  have P2 : PlIs W2 w.heap.size 1 (fun k => w.heap.size ≤ k) (newS sm 0) (.slice (some ⟨gl, 0, none⟩) sm cl) (.slice (some ⟨gr, 0, none⟩) sm cr) (.slice none 0 0) (.slice none 0 0) (.slice none 0 0) (.slice none 0 0) := by
    refine (hv2.atBox (b := w.heap.size) (o := 1) (Nat.lt_of_lt_of_le hlt fs2.size) (by omega) (fun i u hu => ?_) (fun i => ?_)).mono (fun k hk => by omega)
    · rw [hW2]
      match i, hu with
      | 0, hu => cases hu; simp [go_sem, k1, k2, k3]
      | 1, hu => cases hu; simp [go_sem, k1, k2, k3]
      | 2, hu => cases hu; simp [go_sem, k1, k2, k3, newS]
      | 3, hu => cases hu; simp [go_sem, k4]
      | 4, hu => cases hu; simp [go_sem, k5, newS]
      | 5, hu => cases hu; simp [go_sem, k6]
      | 6, hu => cases hu; simp [go_sem, k7]
      | 7, hu => cases hu; simp [go_sem, k8]
      | i + 8, hu => simp [slots] at hu
    · rw [hW2]; simp [go_sem, hf i]
  have R2 := Lib.hid (show RunIs W2 w.heap.size sb (fun k => w.heap.size ≤ k) (newS sm 0) (.slice (some ⟨gl, 0, none⟩) sm cl) (.slice (some ⟨gr, 0, none⟩) sm cr) (.slice none 0 0) (.slice none 0 0) (.slice none 0 0) (.slice none 0 0) from ⟨P2, by rw [hW2]; simp [go_sem, k0]⟩)
  have B2 := Lib.hid b2
  have HW2 := Lib.hid hW2.symm
  unfold deskV
  clear p hv hv2 P2 fs2 b1 b2 K1 hf hW2 k0 k4 k5 k6 k7 k8 KF K0
  go_wp2
  rw [HW2.out]
  clear k1 k2 k3 f1 f2 f3
  go_loopw [4] (fun i wr => ∃ k : Nat, k ≤ wk ∧ i = .int .i64 k ∧ (∃ vl vr ve vh vw vo, RunIs wr w.heap.size sb (fun k => w.heap.size ≤ k) (newS sm k) vl vr ve vh vw vo) ∧ Below w.heap.size w wr) (fun i _ => wk - (intOf i).toNat)
  case atStart => exact ⟨0, Nat.zero_le _, rfl, ⟨_, _, _, _, _, _, R2.out⟩, B2.out⟩
  case round =>
    obtain ⟨k, hk, rfl, ⟨vl, vr, ve, vh, vw, vo, P⟩, hb⟩ := hrel
    obtain ⟨s0, s1, s2, s3, s4, s5⟩ := HV.out wr hb
    by_cases hkw : k < wk
    · have i1 : (k : Int) < (wk : Int) := by omega
      obtain ⟨⟨g0, g1, g2, g3, g4⟩, g5, g6, g7, g8⟩ := P.get
      have bd : Below wr.heap.size wr (wr.alloc (.cells #[.bool false, .int .i64 0, .int .i64 0] 123)) := (Below.refl _ _).alloc (Nat.le_refl _) _
      have PD := Lib.hid (P.below bd)
      have hrd : Rd (wr.alloc (.cells #[.bool false, .int .i64 0, .int .i64 0] 123)) (some ⟨wr.heap.size, 0, none⟩) (FHand.encs [noHand]) := rd_new wr #[.bool false, .int .i64 0, .int .i64 0] 123
      obtain ⟨vha, vhn, vhc, rfl⟩ : ∃ x y z, vh = .slice x y z := by
        obtain ⟨x, z, h1, _⟩ := ownsRow_rd (P.hold.own 3 _ rfl)
        exact ⟨x, _, z, h1⟩
      have HRD := Lib.hid hrd
      have HBD := Lib.hid (hb.trans (bd.mono hb.size))
      have hpos := P.pos
      clear bd hrd
      go_wp2_with (at_builtin; refine Flat.append_at FHand _ (.tmp 27) (.tmp 29) rfl rfl (base := 0) (v := .slice vha vhn vhc) (xs := List.replicate k noHand) (ys := [noHand]) rfl PD.out.oh rfl HRD.out (by simp; omega) (Nat.zero_le _) ?_)
      intro v' w4 o4 q4 at4
      have ek : List.replicate k noHand ++ [noHand] = List.replicate (k + 1) noHand := (List.replicate_succ' ..).symm
      rw [ek] at o4
      obtain ⟨na, nc, hv', _, _⟩ := o4.shape
      have e4 := grown_at q4 PD.out.hold.lt (PD.out.hold.ne_box (i := 3) rfl) 6
      have c4 := e4.1.trans PD.out.get.2.2.1
      have f4 := e4.2.trans (PD.out.fz 6)
      have at4 : v'.ownBlock = (Value.slice vha vhn vhc).ownBlock ∨ v'.ownBlock = some (wr.alloc (.cells #[.bool false, .int .i64 0, .int .i64 0] 123)).heap.size := by rw [show (wr.alloc (.cells #[.bool false, .int .i64 0, .int .i64 0] 123)).heap.size = wr.heap.size + 1 from by simp]; exact at4
      have P4 := PD.out.part (S' := newS sm (k + 1)) 3 5 (c' := FHand.ch v' (List.replicate (k + 1) noHand)) rfl rfl rfl (by decide) q4 o4 (m := w.heap.size) HBD.out.size (at_of at4) PD.out.len hpos
      have F4 := (Fs.of_grown (S := fun k => w.heap.size ≤ k) q4 (fun k hk => PD.out.inB 4 k (by show some (Value.ownBlock (.slice vha vhn vhc)) = some (some k); exact congrArg some hk))).set (a := ⟨w.heap.size, 1 + 5, none⟩) (Nat.le_refl _) v'
      have B4 := Lib.hid (HBD.out.trans (F4.below HBD.out.size (fun k h => h)))
      have P4 := Lib.hid (P4.mono (B' := fun k => w.heap.size ≤ k) (fun k hk => hk.elim (fun h => h) (fun h => h)))
      rw [show (FHand.ch v' (List.replicate (k + 1) noHand)).v = v' from rfl] at P4
      rw [List.length_replicate] at hv'
      subst hv'
      clear o4 q4 at4 e4 F4
      go_wp2
      go_roundw
      case rel => exact ⟨k + 1, by omega, by go_num, ⟨_, _, _, _, _, _, P4.out⟩, B4.out⟩
      case measure => simp [intOf]; omega
    · obtain rfl : k = wk := by omega
      have HP := Lib.hid P
      have HB := Lib.hid hb
      clear P hb
      go_wp2
      go_ret
      exact ⟨by rfl, ⟨_, _, _, _, _, _, HP.out⟩, HB.out⟩
end Go.Proofs.Ytijpkcdalmlaiaa
namespace Go.Proofs.Ytijpkcdalmlaiaa
open Go.RowKit Go.Sort
theorem Flat.Own.apart {α : Type} {F : Flat α} {B : Nat → Prop} {w w' : World} {base : Nat} {v : Value} {xs : List α} (h : F.Own w base v xs) (hf : Fs B w w') (hB : ∀ g, v.ownBlock = some g → ¬ B g) : F.Own w' base v xs := by
  refine ⟨h.1, ?_⟩
  rcases h.2 with h2 | ⟨g, cap, cur, rfl, h2, h3, h4⟩
  · exact .inl h2
  · refine .inr ⟨g, cap, cur, rfl, h2, ?_, h4⟩
    rw [hf.block g (Array.getElem?_eq_some_iff.1 h3).1 (hB g rfl)]
    exact h3
theorem RunIs.tight {w : World} {b sb : Nat} {B B' : Nat → Prop} {S : PS} {vl vr ve vh vw vo : Value} (h : RunIs w b sb B S vl vr ve vh vw vo) (hB : ∀ k, B k → k < w.heap.size → B' k) : RunIs w b sb B' S vl vr ve vh vw vo :=
  ⟨⟨h.box, h.fz, h.hold, fun j g hj => hB g (h.inB j g hj) (h.hold.ltAll j g hj), h.len, h.pos⟩, h.c0⟩
theorem handR_len (n t : Int) (xss : List (List Int)) (bs sm wk : Int) (ds : List (Int × Int)) : (handR n t xss bs sm wk ds).1.length ≤ 8 := by
  unfold handR
  split
  · rename_i h
    obtain ⟨hok, hall, _⟩ := dcode_zero h
    obtain ⟨n', sm', wk', rfl, rfl, rfl, hs, _, _⟩ := servOk_nat hok
    rw [Int.toNat_natCast, Int.toNat_natCast]
    have hI := afterS_inv (n := n') (bs := bs) (wk := wk') (serviceOk_parts hok).1 hs.1 ds (newS sm' wk') hall (PInv.new hs.1)
    have h1 := hI.outs
    have h2 := hI.desk.ok.2.2.2.2
    dsimp only at h2 ⊢
    omega
  · simp

set_option maxRecDepth 100000 in
set_option maxHeartbeats 4000000 in
theorem l09Play_any {sb n sm wk : Nat} {t bs : Int} {sv : Value} {xss : List (List Int)} {ds : List (Int × Int)} {rv : Value} (w : World) (V : ServAt w sb 0 n t sv bs sm wk) (ha : SlII w sv xss) (hr : FDeed.Sl w rv ds) (hok : serviceOk n t xss bs sm wk = true) (hall : ∀ d ∈ ds, deedOk d.1 d.2 = true) (hl : ds.length ≤ 400) :
    Calls Try.prog 41 #[.pointer (some ⟨sb, 0, none⟩), rv] w fun e w' => ∃ v, e = .returned (.tuple #[.pointer (some ⟨w.heap.size, 0, none⟩), v]) ∧ OwnI w' w.heap.size v (codesS t xss bs sm wk ds (newS sm wk)) ∧ (∃ vl vr ve vh vw vo, RunIs w' w.heap.size sb (fun k => w.heap.size ≤ k) (afterS t xss bs sm wk ds (newS sm wk)) vl vr ve vh vw vo) ∧ Below w.heap.size w w' := by
  have HR := Lib.hid (fun W (h : Below w.heap.size w W) => hr.below h)
  have HV := Lib.hid (show SvF w.heap.size w sb n t sv xss bs sm wk from ⟨Nat.le_refl _, fun W h => ⟨V.below h, ha.below h⟩⟩)
  obtain ⟨ra, rc, rfl, hrc, hrc2, _⟩ := id hr
  unfold maxLen at hrc2
  obtain ⟨hs, hwk⟩ : (1 ≤ sm ∧ sm ≤ 8) ∧ (1 ≤ wk ∧ wk ≤ 4) := by
    obtain ⟨h1, h2, h3, h4⟩ := serviceOk_parts hok
    omega
  have HOK := Lib.hid hok
  have HALL := Lib.hid hall
  have KB := Lib.hid (l09Begin_any w V hs hwk)
  have hch := (serviceOk_parts hok).1
  have HCH := Lib.hid hch
  clear V ha hr hok hall hch
  go_enter Try.func41, Try.ntmps41
  go_wp2_with fail
  refine KB.out.mono ?_
  rintro e w1 ⟨rfl, ⟨vl, vr, ve, vh, vw, vo, P⟩, b1⟩
  have bz : Below w1.heap.size w1 (w1.alloc (.cells #[] 2)) := (Below.refl _ _).alloc (Nat.le_refl _) _
  have hne := OwnI.empty w1 (base := w.heap.size) b1.size
  have P1 := Lib.hid ((P.tight (B' := fun k => w.heap.size ≤ k ∧ k < w1.heap.size) (fun k h1 h2 => ⟨h1, h2⟩)).below bz)
  have O1 := Lib.hid hne
  have B1 := Lib.hid (b1.trans (bz.mono b1.size))
  clear P b1 bz hne KB
  go_wp2
  go_loopw [7, 8] (fun v i wr => ∃ (k : Nat) (va : Option Addr) (vn vc : Nat) (vl vr ve vh vw vo : Value) (B : Nat → Prop), k ≤ ds.length ∧ i = .int .i64 k ∧ v = .slice va vn vc ∧ OwnI wr w.heap.size v (codesS t xss bs sm wk (ds.take k) (newS sm wk)) ∧ RunIs wr w.heap.size sb B (afterS t xss bs sm wk (ds.take k) (newS sm wk)) vl vr ve vh vw vo ∧ (∀ g, B g → w.heap.size ≤ g ∧ v.ownBlock ≠ some g) ∧ Below w.heap.size w wr) (fun _ i _ => ds.length - (intOf i).toNat)
  case atStart => exact ⟨0, _, _, _, _, _, _, _, _, _, _, Nat.zero_le _, rfl, rfl, O1.out, P1.out, fun g hg => ⟨hg.1, by simp [Value.ownBlock]; omega⟩, B1.out⟩
  case round =>
    obtain ⟨k, va, vn, vc, vl, vr, ve, vh, vw, vo, B, hk, rfl, rfl, ho, P, hB, hb⟩ := hrel
    have HB := Lib.hid hb
    by_cases hlt : k < ds.length
    · obtain ⟨db, do', rfl, _, c0, c1⟩ := FDeed_at (HR.out _ hb) hlt
      have hd := HALL.out _ (List.getElem_mem hlt)
      have i1 : (k : Int) < (ds.length : Int) := by omega
      have has := afterS_succ (t := t) (xss := xss) (bs := bs) (sm := sm) (wk := wk) hlt (newS sm wk)
      have hcs := codesS_succ (t := t) (xss := xss) (bs := bs) (sm := sm) (wk := wk) hlt (newS sm wk)
      have hI := afterS_inv (n := n) (bs := bs) (wk := wk) HCH.out hs.1 (ds.take k) (newS sm wk) (fun d h => HALL.out d (List.mem_of_mem_take h)) (PInv.new hs.1)
      have hcl := codesS_len (t := t) (xss := xss) (bs := bs) (sm := sm) (wk := wk) (ds.take k) (newS sm wk)
      rw [List.length_take, Nat.min_eq_left hk] at hcl
      generalize ds[k] = d at c0 c1 hd has hcs
      obtain ⟨dk, da⟩ := d
      dsimp only at c0 c1 hd
      have HD := Lib.hid (RnDo_any wr P (HV.out.step hb) (fun g hg => (hB g hg).1) hI HOK.out dk da hd)
      generalize afterS t xss bs sm wk (ds.take k) (newS sm wk) = Sk at HD has hcs P
      generalize codesS t xss bs sm wk (ds.take k) (newS sm wk) = Ck at hcs hcl ho
      generalize hR : doS t xss bs sm wk (dk, da) Sk = R at HD has hcs
      obtain ⟨c, Sn⟩ := R
      dsimp only at has hcs
      have HAS := Lib.hid has
      have HCS := Lib.hid hcs
      have HO := Lib.hid ho
      have HBB := Lib.hid hB
      have HLT := Lib.hid (fun g hg => (World.ownsRow.lt (show wr.ownsRow w.heap.size _ _ _ _ _ from ho) g hg).2)
      clear has hcs hR hI P hB ho hb
      go_wp2_with fail
      refine HD.out.mono ?_
      intro e w4 h
      obtain ⟨rfl, ⟨vl', vr', ve', vh', vw', vo', P4⟩, F4⟩ := h
      have b4 := HB.out.trans (F4.below HB.out.size (fun g hg => (HBB.out g hg).1))
      have O4 : FI.Own w4 w.heap.size (.slice va vn vc) Ck := by
        refine Flat.Own.apart (by rw [FI_own]; exact HO.out) F4 (fun g hg h => (HBB.out g h).2 hg)
      have P4 := P4.tight (B' := fun g => w.heap.size ≤ g ∧ (Value.slice va vn vc).ownBlock ≠ some g ∧ g < w4.heap.size) (fun g h1 h2 => ⟨h1.elim (fun h => (HBB.out g h).1) (fun h => Nat.le_trans HB.out.size h), h1.elim (fun h => (HBB.out g h).2) (fun h h3 => by have := HLT.out g h3; omega), h2⟩)
      have bd : Below w4.heap.size w4 (w4.alloc (.cells #[.int .i64 c] 2)) := (Below.refl _ _).alloc (Nat.le_refl _) _
      have PD := Lib.hid (P4.below bd)
      have OD := Lib.hid (Flat.Own.below O4 bd)
      have HRD := Lib.hid (show Rd (w4.alloc (.cells #[.int .i64 c] 2)) (some ⟨w4.heap.size, 0, none⟩) (FI.encs [c]) from rd_new w4 #[.int .i64 c] 2)
      have B4 := Lib.hid (b4.trans (bd.mono b4.size))
      clear P4 O4 bd b4 F4 c0 c1
      go_wp2_with (at_builtin; refine Flat.append_at FI _ (.tmp 18) (.tmp 25) rfl rfl (base := w.heap.size) (v := .slice va vn vc) (xs := Ck) (ys := [c]) rfl OD.out rfl HRD.out (by simp; omega) B4.out.size ?_)
      intro v' w5 o5 q5 at5
      have F5 := Fs.of_grown (S := fun g => (Value.slice va vn vc).ownBlock = some g) q5 (fun g hg => hg)
      have P5 := Lib.hid (PD.out.fs F5 (fun g hg h => hg.2.1 h))
      have B5 := Lib.hid (B4.out.trans (F5.below B4.out.size (fun g hg => (World.ownsRow.lt (show World.ownsRow _ w.heap.size _ _ _ _ _ from OD.out) g hg).1)))
      have at5 : v'.ownBlock = (Value.slice va vn vc).ownBlock ∨ v'.ownBlock = some (w4.heap.size + 1) := by simpa using at5
      have HAT := Lib.hid (show ∀ g, (w.heap.size ≤ g ∧ (Value.slice va vn vc).ownBlock ≠ some g ∧ g < w4.heap.size) → w.heap.size ≤ g ∧ v'.ownBlock ≠ some g from fun g hg => ⟨hg.1, fun h => at5.elim (fun h2 => hg.2.1 (h2 ▸ h)) (fun h2 => by rw [h2] at h; simp at h; omega)⟩)
      have O5 := Lib.hid (show OwnI w5 w.heap.size v' (Ck ++ [c]) by rw [← FI_own]; exact o5)
      obtain ⟨na, nc, hv', _, _⟩ := o5.shape
      subst hv'
      clear o5 q5 at5 F5
      go_wp2
      go_roundw
      case rel => exact ⟨k + 1, _, _, _, _, _, _, _, _, _, _, by omega, by go_num, rfl, by rw [HCS.out]; exact O5.out, by rw [HAS.out]; exact P5.out, HAT.out, B5.out⟩
      case measure => simp [intOf]; omega
    · obtain rfl : k = ds.length := by omega
      rw [List.take_length] at ho P
      have HO := Lib.hid ho
      have HP := Lib.hid (P.mono (fun g hg => (hB g hg).1))
      clear ho P hB hb
      go_wp2
      refine bodyPost_ret (v := .tuple #[.pointer (some ⟨w.heap.size, 0, none⟩), .slice va vn vc]) (by simp [results, Try.results41, go_sem]) rfl ⟨_, rfl, HO.out, ⟨_, _, _, _, _, _, HP.out⟩, HB.out⟩

set_option maxRecDepth 100000 in
set_option maxHeartbeats 4000000 in
theorem SpecHandedOut_any {u : Value} {xss : List (List Int)} {ds : List (Int × Int)} {rv : Value} (n t bs sm wk : Int) (w : World) (ha : SlII w u xss) (hr : FDeed.Sl w rv ds) :
    Calls Try.prog 11 #[.agg #[.int .i64 n, .int .i64 t, u, .int .i64 bs, .int .i64 sm, .int .i64 wk], rv] w fun e w' => ∃ v, e = .returned (.tuple #[v, .int .i64 (handR n t xss bs sm wk ds).2]) ∧ OwnI w' w.heap.size v (handR n t xss bs sm wk ds).1 ∧ Below w.heap.size w w' := by
  have bx : Below w.heap.size w (w.alloc (svObj n t u bs sm wk)) := (Below.refl _ _).alloc (Nat.le_refl _) _
  have KV := Lib.hid (fun W (h : Below (w.alloc (svObj n t u bs sm wk)).heap.size (w.alloc (svObj n t u bs sm wk)) W) => (svBox w n t u bs sm wk).below h)
  have HA := Lib.hid (fun W (h : Below w.heap.size w W) => ha.below h)
  have HR := Lib.hid (fun W (h : Below w.heap.size w W) => hr.below h)
  have K := Lib.hid (l09Asked_any w.heap.size n t bs sm wk _ (svBox w n t u bs sm wk) (ha.below bx) (hr.below bx))
  obtain ⟨ra, rc, rfl, hrc, hrc2, _⟩ := id hr
  obtain ⟨a, ca, us, rfl, _⟩ := id ha
  unfold maxLen at hrc2
  generalize hq : dcode n t xss bs sm wk ds = q at K
  have HQ := Lib.hid hq
  by_cases h0 : q = 0
  · subst h0
    obtain ⟨hok, hall, hlen⟩ := dcode_zero hq
    obtain ⟨n', sm', wk', rfl, rfl, rfl, hs, hwk, hn6⟩ := servOk_nat hok
    have HF := Lib.hid (show handR n' t xss bs sm' wk' ds = ((afterS t xss bs sm' wk' ds (newS sm' wk')).out, 0) by unfold handR; rw [if_pos HQ.out, Int.toNat_natCast, Int.toNat_natCast])
    have hI := afterS_inv (n := n') (bs := bs) (wk := wk') (serviceOk_parts hok).1 hs.1 ds (newS sm' wk') hall (PInv.new hs.1)
    have HALL := Lib.hid hall
    have HOK := Lib.hid hok
    have t0 : ((0 : Int) != 0) = false := rfl
    have hol : (afterS t xss bs sm' wk' ds (newS sm' wk')).out.length ≤ 8 := by
      have h1 := hI.outs
      have h2 := hI.desk.ok.2.2.2.2
      dsimp only at h2
      omega
    clear hq ha hr hall hok HQ hI
    go_enter Try.func11, Try.ntmps11
    go_wp2_with fail
    refine K.out.mono ?_
    rintro e w1 ⟨rfl, b1⟩
    have B1 := Lib.hid (bx.trans (b1.mono bx.size))
    have V1 := Lib.hid (KV.out w1 b1)
    clear bx b1 K KV
    go_wp2_with fail
    refine (l09Play_any w1 V1.out (HA.out _ B1.out) (HR.out _ B1.out) HOK.out HALL.out hlen).mono ?_
    rintro e w2 ⟨v, rfl, _, ⟨vl, vr, ve, vh, vw, vo, P⟩, b2⟩
    generalize afterS t xss bs sm' wk' ds (newS sm' wk') = Sk at HF P hol
    have g8 := P.get.2.2.2.2
    have HS := Lib.hid P.oo.sl
    have B2 := Lib.hid (B1.out.trans (b2.mono B1.out.size))
    clear P b2
    go_wp2_with fail
    refine (l00Own_any w2 HS.out (by omega)).mono ?_
    rintro e w3 ⟨v3, rfl, o3, b3⟩
    go_wp2
    refine bodyPost_ret (v := .tuple #[v3, .int .i64 0]) (by simp [results, Try.results11, go_sem]) rfl ⟨_, by rw [HF.out], ?_, B2.out.trans (b3.mono B2.out.size)⟩
    rw [HF.out]
    exact o3.lower B2.out.size
  · have HF := Lib.hid (show handR n t xss bs sm wk ds = ([], q) by unfold handR; rw [HQ.out, if_neg h0])
    have t0 : (q != 0) = true := by simp [h0]
    clear hq h0
    go_enter Try.func11, Try.ntmps11
    go_wp2_with fail
    refine K.out.mono ?_
    rintro e w1 ⟨rfl, b1⟩
    go_wp2
    refine bodyPost_ret (v := .tuple #[.slice (some ⟨w1.heap.size, 0, none⟩) 0 0, .int .i64 q]) (by simp [results, Try.results11, go_sem]) rfl ⟨_, by rw [HF.out], ?_, (bx.trans (b1.mono bx.size)).alloc (bx.trans (b1.mono bx.size)).size _⟩
    rw [HF.out]
    exact OwnI.empty _ (bx.trans (b1.mono bx.size)).size
end Go.Proofs.Ytijpkcdalmlaiaa
