/-
  The program's plant: deeds, but those with packets.
-/
import Derived.Test.YtijpkcdalmlaiaaZRowFinishDeeds33
set_option linter.unusedVariables false
set_option linter.unusedSimpArgs false
namespace Go.Proofs.Ytijpkcdalmlaiaa
open Go.RowKit Go.Sort

theorem DoP.up {b : Nat} {B : Nat → Prop} {R : Int × PS} {w W w' : World} {e : Ending} (h : DoP b B R W e w') (F : Fs B w W) : DoP b B R w e w' := by
  obtain ⟨h1, ⟨vl, vr, ve, vh, vw, vo, h2⟩, h3⟩ := h
  exact ⟨h1, ⟨vl, vr, ve, vh, vw, vo, h2.mono (Bm.mono F.size)⟩, F.trans h3⟩
theorem hasIndexP_any (x : Int) (n : Nat) (w : World) (hn : n ≤ 1000) :
    Calls Try.prog 86 #[.int .i64 x, .int .i64 n] w fun e w' => e = .returned (.bool (inR x 0 ((n : Int) - 1))) ∧ Below w.heap.size w w' := by
  have hw : IntKind.i64.wrap ((n : Int) - 1) = (n : Int) - 1 := IntWalk.i64_in _ (by omega)
  go_enter Try.func86, Try.ntmps86
  go_wp2_with (go_at_call 71; refine (inRange_any _ _ _ _).mono ?_; rintro e w' ⟨rfl, rfl⟩)
  go_ret
  exact ⟨rfl, Below.refl _ _⟩
set_option maxRecDepth 100000 in
set_option maxHeartbeats 4000000 in
theorem PlDo_1 {ad : Option Addr} {xss : List (List Int)} {m c b sm wk n a : Nat} {B : Nat → Prop} {S : PS} {vl vr ve vh vw vo : Value} (t bs : Int) (w : World) (P : PlIs w b 0 B S vl vr ve vh vw vo) (hI : PInv n sm wk S) (hs : 1 ≤ sm ∧ sm ≤ 8) (hwk : 1 ≤ wk ∧ wk ≤ 4) (hc : SlII w (.slice ad m c) xss) (hch : chainOk n t xss = true) (hbs : 0 ≤ bs ∧ bs ≤ 999999992) (ha : a ≤ 999) :
    Calls Try.prog 53 #[.pointer (some ⟨b, 0, none⟩), .agg #[.int .i64 n, .int .i64 t, .slice ad m c, .int .i64 bs, .int .i64 sm, .int .i64 wk], .agg #[.int .i64 1, .int .i64 a]] w (DoP b B (doS t xss bs sm wk (1, (a : Int)) S) w) := by
  rw [show doS t xss bs sm wk (1, (a : Int)) S = giveS sm wk a S by unfold doS; simp]
  have HIN := Lib.hid hI
  have HPO := Lib.hid (hI.plOk hs.1 hs.2)
  have hn6 : n ≤ 6 := by have := (chainOk_parts0 hch).1; omega
  have HB := Lib.hid P.ownB
  have HL := Lib.hid P.ownLt
  have bA : Below w.heap.size w (w.alloc (.cells #[.int .i64 n, .int .i64 t, .slice ad m c, .int .i64 bs, .int .i64 sm, .int .i64 wk] 35)) := (Below.refl _ _).alloc (Nat.le_refl _) _
  have KA := CellsAt.new w [.int .i64 n, .int .i64 t, .slice ad m c, .int .i64 bs, .int .i64 sm, .int .i64 wk] 35
  have bB : Below (w.alloc (.cells #[.int .i64 n, .int .i64 t, .slice ad m c, .int .i64 bs, .int .i64 sm, .int .i64 wk] 35)).heap.size (w.alloc (.cells #[.int .i64 n, .int .i64 t, .slice ad m c, .int .i64 bs, .int .i64 sm, .int .i64 wk] 35)) ((w.alloc (.cells #[.int .i64 n, .int .i64 t, .slice ad m c, .int .i64 bs, .int .i64 sm, .int .i64 wk] 35)).alloc (.cells #[.int .i64 1, .int .i64 a] 68)) := (Below.refl _ _).alloc (Nat.le_refl _) _
  obtain ⟨W2, hW2⟩ : ∃ W2, W2 = (w.alloc (.cells #[.int .i64 n, .int .i64 t, .slice ad m c, .int .i64 bs, .int .i64 sm, .int .i64 wk] 35)).alloc (.cells #[.int .i64 1, .int .i64 a] 68) := ⟨_, rfl⟩
  have K1 := Lib.hid (show CellsAt W2 w.heap.size [.int .i64 n, .int .i64 t, .slice ad m c, .int .i64 bs, .int .i64 sm, .int .i64 wk] by rw [hW2]; exact KA.below bB)
  have K2 := Lib.hid (show CellsAt W2 (w.heap.size + 1) [.int .i64 1, .int .i64 a] by rw [hW2]; exact CellsAt.new' (w.alloc (.cells #[.int .i64 n, .int .i64 t, .slice ad m c, .int .i64 bs, .int .i64 sm, .int .i64 wk] 35)) [.int .i64 1, .int .i64 a] 68 (by simp))
  rw [← hW2] at bB
  have b2 : Below w.heap.size w W2 := bA.trans (bB.mono bA.size)
  have P2 := Lib.hid (P.below b2)
  have F2 := Lib.hid (Fs.of_below (S := B) b2)
  have HZ2 := Lib.hid b2.size
  have HS2 := Lib.hid (show w.heap.size + 2 = W2.heap.size by rw [hW2]; simp)
  have HC := Lib.hid (hc.below b2)
  have HW2 := Lib.hid hW2.symm
  have hbl := P2.out.blt
  clear P hI bA bB KA b2 hc hW2
  go_enter Try.func53, Try.ntmps53
  go_wp2_with fail
  rw [HW2.out]
  refine (PlGive_any n t bs W2 P2.out HPO.out hwk ha).mono ?_
  intro e w3 h
  obtain ⟨rfl, h9⟩ := h.up F2.out
  have HP := Lib.hid h9
  clear h h9
  go_wp2
  go_ret
  exact ⟨rfl, HP.out⟩
set_option maxRecDepth 100000 in
set_option maxHeartbeats 4000000 in
theorem PlDo_2 {ad : Option Addr} {xss : List (List Int)} {m c b sm wk n a : Nat} {B : Nat → Prop} {S : PS} {vl vr ve vh vw vo : Value} (t bs : Int) (w : World) (P : PlIs w b 0 B S vl vr ve vh vw vo) (hI : PInv n sm wk S) (hs : 1 ≤ sm ∧ sm ≤ 8) (hwk : 1 ≤ wk ∧ wk ≤ 4) (hc : SlII w (.slice ad m c) xss) (hch : chainOk n t xss = true) (hbs : 0 ≤ bs ∧ bs ≤ 999999992) (ha : a ≤ 999) :
    Calls Try.prog 53 #[.pointer (some ⟨b, 0, none⟩), .agg #[.int .i64 n, .int .i64 t, .slice ad m c, .int .i64 bs, .int .i64 sm, .int .i64 wk], .agg #[.int .i64 2, .int .i64 a]] w (DoP b B (doS t xss bs sm wk (2, (a : Int)) S) w) := by
  rw [show doS t xss bs sm wk (2, (a : Int)) S = workS t xss bs wk a S by unfold doS; simp]
  have HIN := Lib.hid hI
  have HPO := Lib.hid (hI.plOk hs.1 hs.2)
  have hn6 : n ≤ 6 := by have := (chainOk_parts0 hch).1; omega
  have HB := Lib.hid P.ownB
  have HL := Lib.hid P.ownLt
  have bA : Below w.heap.size w (w.alloc (.cells #[.int .i64 n, .int .i64 t, .slice ad m c, .int .i64 bs, .int .i64 sm, .int .i64 wk] 35)) := (Below.refl _ _).alloc (Nat.le_refl _) _
  have KA := CellsAt.new w [.int .i64 n, .int .i64 t, .slice ad m c, .int .i64 bs, .int .i64 sm, .int .i64 wk] 35
  have bB : Below (w.alloc (.cells #[.int .i64 n, .int .i64 t, .slice ad m c, .int .i64 bs, .int .i64 sm, .int .i64 wk] 35)).heap.size (w.alloc (.cells #[.int .i64 n, .int .i64 t, .slice ad m c, .int .i64 bs, .int .i64 sm, .int .i64 wk] 35)) ((w.alloc (.cells #[.int .i64 n, .int .i64 t, .slice ad m c, .int .i64 bs, .int .i64 sm, .int .i64 wk] 35)).alloc (.cells #[.int .i64 2, .int .i64 a] 68)) := (Below.refl _ _).alloc (Nat.le_refl _) _
  obtain ⟨W2, hW2⟩ : ∃ W2, W2 = (w.alloc (.cells #[.int .i64 n, .int .i64 t, .slice ad m c, .int .i64 bs, .int .i64 sm, .int .i64 wk] 35)).alloc (.cells #[.int .i64 2, .int .i64 a] 68) := ⟨_, rfl⟩
  have K1 := Lib.hid (show CellsAt W2 w.heap.size [.int .i64 n, .int .i64 t, .slice ad m c, .int .i64 bs, .int .i64 sm, .int .i64 wk] by rw [hW2]; exact KA.below bB)
  have K2 := Lib.hid (show CellsAt W2 (w.heap.size + 1) [.int .i64 2, .int .i64 a] by rw [hW2]; exact CellsAt.new' (w.alloc (.cells #[.int .i64 n, .int .i64 t, .slice ad m c, .int .i64 bs, .int .i64 sm, .int .i64 wk] 35)) [.int .i64 2, .int .i64 a] 68 (by simp))
  rw [← hW2] at bB
  have b2 : Below w.heap.size w W2 := bA.trans (bB.mono bA.size)
  have P2 := Lib.hid (P.below b2)
  have F2 := Lib.hid (Fs.of_below (S := B) b2)
  have HZ2 := Lib.hid b2.size
  have HS2 := Lib.hid (show w.heap.size + 2 = W2.heap.size by rw [hW2]; simp)
  have HC := Lib.hid (hc.below b2)
  have HW2 := Lib.hid hW2.symm
  have hbl := P2.out.blt
  clear P hI bA bB KA b2 hc hW2
  go_enter Try.func53, Try.ntmps53
  go_wp2_with fail
  rw [HW2.out]
  refine (PlWork_any t bs W2 P2.out HIN.out hs hwk ha HC.out hch hbs).mono ?_
  intro e w3 h
  obtain ⟨rfl, h9⟩ := h.up F2.out
  have HP := Lib.hid h9
  clear h h9
  go_wp2
  go_ret
  exact ⟨rfl, HP.out⟩
set_option maxRecDepth 100000 in
set_option maxHeartbeats 4000000 in
theorem PlDo_7 {ad : Option Addr} {xss : List (List Int)} {m c b sm wk n a : Nat} {B : Nat → Prop} {S : PS} {vl vr ve vh vw vo : Value} (t bs : Int) (w : World) (P : PlIs w b 0 B S vl vr ve vh vw vo) (hI : PInv n sm wk S) (hs : 1 ≤ sm ∧ sm ≤ 8) (hwk : 1 ≤ wk ∧ wk ≤ 4) (hc : SlII w (.slice ad m c) xss) (hch : chainOk n t xss = true) (hbs : 0 ≤ bs ∧ bs ≤ 999999992) (ha : a ≤ 999) :
    Calls Try.prog 53 #[.pointer (some ⟨b, 0, none⟩), .agg #[.int .i64 n, .int .i64 t, .slice ad m c, .int .i64 bs, .int .i64 sm, .int .i64 wk], .agg #[.int .i64 7, .int .i64 a]] w (DoP b B (doS t xss bs sm wk (7, (a : Int)) S) w) := by
  rw [show doS t xss bs sm wk (7, (a : Int)) S = outS sm S by unfold doS; simp]
  have HIN := Lib.hid hI
  have HPO := Lib.hid (hI.plOk hs.1 hs.2)
  have hn6 : n ≤ 6 := by have := (chainOk_parts0 hch).1; omega
  have HB := Lib.hid P.ownB
  have HL := Lib.hid P.ownLt
  have bA : Below w.heap.size w (w.alloc (.cells #[.int .i64 n, .int .i64 t, .slice ad m c, .int .i64 bs, .int .i64 sm, .int .i64 wk] 35)) := (Below.refl _ _).alloc (Nat.le_refl _) _
  have KA := CellsAt.new w [.int .i64 n, .int .i64 t, .slice ad m c, .int .i64 bs, .int .i64 sm, .int .i64 wk] 35
  have bB : Below (w.alloc (.cells #[.int .i64 n, .int .i64 t, .slice ad m c, .int .i64 bs, .int .i64 sm, .int .i64 wk] 35)).heap.size (w.alloc (.cells #[.int .i64 n, .int .i64 t, .slice ad m c, .int .i64 bs, .int .i64 sm, .int .i64 wk] 35)) ((w.alloc (.cells #[.int .i64 n, .int .i64 t, .slice ad m c, .int .i64 bs, .int .i64 sm, .int .i64 wk] 35)).alloc (.cells #[.int .i64 7, .int .i64 a] 68)) := (Below.refl _ _).alloc (Nat.le_refl _) _
  obtain ⟨W2, hW2⟩ : ∃ W2, W2 = (w.alloc (.cells #[.int .i64 n, .int .i64 t, .slice ad m c, .int .i64 bs, .int .i64 sm, .int .i64 wk] 35)).alloc (.cells #[.int .i64 7, .int .i64 a] 68) := ⟨_, rfl⟩
  have K1 := Lib.hid (show CellsAt W2 w.heap.size [.int .i64 n, .int .i64 t, .slice ad m c, .int .i64 bs, .int .i64 sm, .int .i64 wk] by rw [hW2]; exact KA.below bB)
  have K2 := Lib.hid (show CellsAt W2 (w.heap.size + 1) [.int .i64 7, .int .i64 a] by rw [hW2]; exact CellsAt.new' (w.alloc (.cells #[.int .i64 n, .int .i64 t, .slice ad m c, .int .i64 bs, .int .i64 sm, .int .i64 wk] 35)) [.int .i64 7, .int .i64 a] 68 (by simp))
  rw [← hW2] at bB
  have b2 : Below w.heap.size w W2 := bA.trans (bB.mono bA.size)
  have P2 := Lib.hid (P.below b2)
  have F2 := Lib.hid (Fs.of_below (S := B) b2)
  have HZ2 := Lib.hid b2.size
  have HS2 := Lib.hid (show w.heap.size + 2 = W2.heap.size by rw [hW2]; simp)
  have HC := Lib.hid (hc.below b2)
  have HW2 := Lib.hid hW2.symm
  have hbl := P2.out.blt
  clear P hI bA bB KA b2 hc hW2
  go_enter Try.func53, Try.ntmps53
  go_wp2_with fail
  rw [HW2.out]
  refine (PlOut_any W2 P2.out HIN.out hs).mono ?_
  intro e w3 h
  obtain ⟨rfl, h9⟩ := h.up F2.out
  have HP := Lib.hid h9
  clear h h9
  go_wp2
  go_ret
  exact ⟨rfl, HP.out⟩
set_option maxRecDepth 100000 in
set_option maxHeartbeats 4000000 in
theorem PlDo_6 {ad : Option Addr} {xss : List (List Int)} {m c b sm wk n a : Nat} {B : Nat → Prop} {S : PS} {vl vr ve vh vw vo : Value} (t bs : Int) (w : World) (P : PlIs w b 0 B S vl vr ve vh vw vo) (hI : PInv n sm wk S) (hs : 1 ≤ sm ∧ sm ≤ 8) (hwk : 1 ≤ wk ∧ wk ≤ 4) (hc : SlII w (.slice ad m c) xss) (hch : chainOk n t xss = true) (hbs : 0 ≤ bs ∧ bs ≤ 999999992) (ha : a ≤ 999) :
    Calls Try.prog 53 #[.pointer (some ⟨b, 0, none⟩), .agg #[.int .i64 n, .int .i64 t, .slice ad m c, .int .i64 bs, .int .i64 sm, .int .i64 wk], .agg #[.int .i64 6, .int .i64 a]] w (DoP b B (doS t xss bs sm wk (6, (a : Int)) S) w) := by
  rw [show doS t xss bs sm wk (6, (a : Int)) S = (0, { S with sy := S.recs.length }) by unfold doS; simp]
  have HIN := Lib.hid hI
  have HPO := Lib.hid (hI.plOk hs.1 hs.2)
  have hn6 : n ≤ 6 := by have := (chainOk_parts0 hch).1; omega
  have HB := Lib.hid P.ownB
  have HL := Lib.hid P.ownLt
  have bA : Below w.heap.size w (w.alloc (.cells #[.int .i64 n, .int .i64 t, .slice ad m c, .int .i64 bs, .int .i64 sm, .int .i64 wk] 35)) := (Below.refl _ _).alloc (Nat.le_refl _) _
  have KA := CellsAt.new w [.int .i64 n, .int .i64 t, .slice ad m c, .int .i64 bs, .int .i64 sm, .int .i64 wk] 35
  have bB : Below (w.alloc (.cells #[.int .i64 n, .int .i64 t, .slice ad m c, .int .i64 bs, .int .i64 sm, .int .i64 wk] 35)).heap.size (w.alloc (.cells #[.int .i64 n, .int .i64 t, .slice ad m c, .int .i64 bs, .int .i64 sm, .int .i64 wk] 35)) ((w.alloc (.cells #[.int .i64 n, .int .i64 t, .slice ad m c, .int .i64 bs, .int .i64 sm, .int .i64 wk] 35)).alloc (.cells #[.int .i64 6, .int .i64 a] 68)) := (Below.refl _ _).alloc (Nat.le_refl _) _
  obtain ⟨W2, hW2⟩ : ∃ W2, W2 = (w.alloc (.cells #[.int .i64 n, .int .i64 t, .slice ad m c, .int .i64 bs, .int .i64 sm, .int .i64 wk] 35)).alloc (.cells #[.int .i64 6, .int .i64 a] 68) := ⟨_, rfl⟩
  have K1 := Lib.hid (show CellsAt W2 w.heap.size [.int .i64 n, .int .i64 t, .slice ad m c, .int .i64 bs, .int .i64 sm, .int .i64 wk] by rw [hW2]; exact KA.below bB)
  have K2 := Lib.hid (show CellsAt W2 (w.heap.size + 1) [.int .i64 6, .int .i64 a] by rw [hW2]; exact CellsAt.new' (w.alloc (.cells #[.int .i64 n, .int .i64 t, .slice ad m c, .int .i64 bs, .int .i64 sm, .int .i64 wk] 35)) [.int .i64 6, .int .i64 a] 68 (by simp))
  rw [← hW2] at bB
  have b2 : Below w.heap.size w W2 := bA.trans (bB.mono bA.size)
  have P2 := Lib.hid (P.below b2)
  have F2 := Lib.hid (Fs.of_below (S := B) b2)
  have HZ2 := Lib.hid b2.size
  have HS2 := Lib.hid (show w.heap.size + 2 = W2.heap.size by rw [hW2]; simp)
  have HC := Lib.hid (hc.below b2)
  have HW2 := Lib.hid hW2.symm
  have hbl := P2.out.blt
  clear P hI bA bB KA b2 hc hW2
  obtain ⟨ea, ec, rfl, _, _⟩ := P2.out.oe.shape
  have P3 := Lib.hid (P2.out.number S.recs.length)
  have F3 := Lib.hid (F2.out.set (a := ⟨b, 0 + 4, none⟩) (HB.out b ⟨0, rfl⟩) (.int .i64 S.recs.length))
  obtain ⟨⟨_, _, _, q3⟩, q4, _⟩ := P2.out.get
  have f4 := P2.out.fz 4
  go_enter Try.func53, Try.ntmps53
  go_upto_region 17 with (fail)
  rw [HW2.out]
  go_wp2
  go_ret
  exact DoP.mk rfl (P3.out.mono (fun k hk => .inl hk)) F3.out
set_option maxRecDepth 100000 in
set_option maxHeartbeats 4000000 in
theorem PlDo_8 {ad : Option Addr} {xss : List (List Int)} {m c b sm wk n a : Nat} {B : Nat → Prop} {S : PS} {vl vr ve vh vw vo : Value} (t bs : Int) (w : World) (P : PlIs w b 0 B S vl vr ve vh vw vo) (hI : PInv n sm wk S) (hs : 1 ≤ sm ∧ sm ≤ 8) (hwk : 1 ≤ wk ∧ wk ≤ 4) (hc : SlII w (.slice ad m c) xss) (hch : chainOk n t xss = true) (hbs : 0 ≤ bs ∧ bs ≤ 999999992) (ha : a ≤ 999) :
    Calls Try.prog 53 #[.pointer (some ⟨b, 0, none⟩), .agg #[.int .i64 n, .int .i64 t, .slice ad m c, .int .i64 bs, .int .i64 sm, .int .i64 wk], .agg #[.int .i64 8, .int .i64 a]] w (DoP b B (doS t xss bs sm wk (8, (a : Int)) S) w) := by
  rw [show doS t xss bs sm wk (8, (a : Int)) S = (0, crashS sm S) by unfold doS; simp]
  have HIN := Lib.hid hI
  have HPO := Lib.hid (hI.plOk hs.1 hs.2)
  have hn6 : n ≤ 6 := by have := (chainOk_parts0 hch).1; omega
  have HB := Lib.hid P.ownB
  have HL := Lib.hid P.ownLt
  have bA : Below w.heap.size w (w.alloc (.cells #[.int .i64 n, .int .i64 t, .slice ad m c, .int .i64 bs, .int .i64 sm, .int .i64 wk] 35)) := (Below.refl _ _).alloc (Nat.le_refl _) _
  have KA := CellsAt.new w [.int .i64 n, .int .i64 t, .slice ad m c, .int .i64 bs, .int .i64 sm, .int .i64 wk] 35
  have bB : Below (w.alloc (.cells #[.int .i64 n, .int .i64 t, .slice ad m c, .int .i64 bs, .int .i64 sm, .int .i64 wk] 35)).heap.size (w.alloc (.cells #[.int .i64 n, .int .i64 t, .slice ad m c, .int .i64 bs, .int .i64 sm, .int .i64 wk] 35)) ((w.alloc (.cells #[.int .i64 n, .int .i64 t, .slice ad m c, .int .i64 bs, .int .i64 sm, .int .i64 wk] 35)).alloc (.cells #[.int .i64 8, .int .i64 a] 68)) := (Below.refl _ _).alloc (Nat.le_refl _) _
  obtain ⟨W2, hW2⟩ : ∃ W2, W2 = (w.alloc (.cells #[.int .i64 n, .int .i64 t, .slice ad m c, .int .i64 bs, .int .i64 sm, .int .i64 wk] 35)).alloc (.cells #[.int .i64 8, .int .i64 a] 68) := ⟨_, rfl⟩
  have K1 := Lib.hid (show CellsAt W2 w.heap.size [.int .i64 n, .int .i64 t, .slice ad m c, .int .i64 bs, .int .i64 sm, .int .i64 wk] by rw [hW2]; exact KA.below bB)
  have K2 := Lib.hid (show CellsAt W2 (w.heap.size + 1) [.int .i64 8, .int .i64 a] by rw [hW2]; exact CellsAt.new' (w.alloc (.cells #[.int .i64 n, .int .i64 t, .slice ad m c, .int .i64 bs, .int .i64 sm, .int .i64 wk] 35)) [.int .i64 8, .int .i64 a] 68 (by simp))
  rw [← hW2] at bB
  have b2 : Below w.heap.size w W2 := bA.trans (bB.mono bA.size)
  have P2 := Lib.hid (P.below b2)
  have F2 := Lib.hid (Fs.of_below (S := B) b2)
  have HZ2 := Lib.hid b2.size
  have HS2 := Lib.hid (show w.heap.size + 2 = W2.heap.size by rw [hW2]; simp)
  have HC := Lib.hid (hc.below b2)
  have HW2 := Lib.hid hW2.symm
  have hbl := P2.out.blt
  clear P hI bA bB KA b2 hc hW2
  go_enter Try.func53, Try.ntmps53
  go_wp2_with fail
  rw [HW2.out]
  refine (PlCrash_any t bs _ P2.out HIN.out hs hn6).mono ?_
  rintro e w3 ⟨rfl, ⟨_, _, _, _, _, _, P3⟩, F3⟩
  have P3 := Lib.hid (P3.mono (Bm.mono F2.out.size))
  have F3 := Lib.hid (F2.out.trans F3)
  go_wp2
  go_ret
  exact DoP.mk rfl P3.out F3.out
set_option maxRecDepth 100000 in
set_option maxHeartbeats 4000000 in
theorem PlDo_9 {ad : Option Addr} {xss : List (List Int)} {m c b sm wk n a : Nat} {B : Nat → Prop} {S : PS} {vl vr ve vh vw vo : Value} (t bs : Int) (w : World) (P : PlIs w b 0 B S vl vr ve vh vw vo) (hI : PInv n sm wk S) (hs : 1 ≤ sm ∧ sm ≤ 8) (hwk : 1 ≤ wk ∧ wk ≤ 4) (hc : SlII w (.slice ad m c) xss) (hch : chainOk n t xss = true) (hbs : 0 ≤ bs ∧ bs ≤ 999999992) (ha : a ≤ 999) :
    Calls Try.prog 53 #[.pointer (some ⟨b, 0, none⟩), .agg #[.int .i64 n, .int .i64 t, .slice ad m c, .int .i64 bs, .int .i64 sm, .int .i64 wk], .agg #[.int .i64 9, .int .i64 a]] w (DoP b B (doS t xss bs sm wk (9, (a : Int)) S) w) := by
  rw [show doS t xss bs sm wk (9, (a : Int)) S = if S.sy = S.recs.length then (4, S) else (0, crashS sm S) by unfold doS; simp]
  have HIN := Lib.hid hI
  have HPO := Lib.hid (hI.plOk hs.1 hs.2)
  have hn6 : n ≤ 6 := by have := (chainOk_parts0 hch).1; omega
  have HB := Lib.hid P.ownB
  have HL := Lib.hid P.ownLt
  have bA : Below w.heap.size w (w.alloc (.cells #[.int .i64 n, .int .i64 t, .slice ad m c, .int .i64 bs, .int .i64 sm, .int .i64 wk] 35)) := (Below.refl _ _).alloc (Nat.le_refl _) _
  have KA := CellsAt.new w [.int .i64 n, .int .i64 t, .slice ad m c, .int .i64 bs, .int .i64 sm, .int .i64 wk] 35
  have bB : Below (w.alloc (.cells #[.int .i64 n, .int .i64 t, .slice ad m c, .int .i64 bs, .int .i64 sm, .int .i64 wk] 35)).heap.size (w.alloc (.cells #[.int .i64 n, .int .i64 t, .slice ad m c, .int .i64 bs, .int .i64 sm, .int .i64 wk] 35)) ((w.alloc (.cells #[.int .i64 n, .int .i64 t, .slice ad m c, .int .i64 bs, .int .i64 sm, .int .i64 wk] 35)).alloc (.cells #[.int .i64 9, .int .i64 a] 68)) := (Below.refl _ _).alloc (Nat.le_refl _) _
  obtain ⟨W2, hW2⟩ : ∃ W2, W2 = (w.alloc (.cells #[.int .i64 n, .int .i64 t, .slice ad m c, .int .i64 bs, .int .i64 sm, .int .i64 wk] 35)).alloc (.cells #[.int .i64 9, .int .i64 a] 68) := ⟨_, rfl⟩
  have K1 := Lib.hid (show CellsAt W2 w.heap.size [.int .i64 n, .int .i64 t, .slice ad m c, .int .i64 bs, .int .i64 sm, .int .i64 wk] by rw [hW2]; exact KA.below bB)
  have K2 := Lib.hid (show CellsAt W2 (w.heap.size + 1) [.int .i64 9, .int .i64 a] by rw [hW2]; exact CellsAt.new' (w.alloc (.cells #[.int .i64 n, .int .i64 t, .slice ad m c, .int .i64 bs, .int .i64 sm, .int .i64 wk] 35)) [.int .i64 9, .int .i64 a] 68 (by simp))
  rw [← hW2] at bB
  have b2 : Below w.heap.size w W2 := bA.trans (bB.mono bA.size)
  have P2 := Lib.hid (P.below b2)
  have F2 := Lib.hid (Fs.of_below (S := B) b2)
  have HZ2 := Lib.hid b2.size
  have HS2 := Lib.hid (show w.heap.size + 2 = W2.heap.size by rw [hW2]; simp)
  have HC := Lib.hid (hc.below b2)
  have HW2 := Lib.hid hW2.symm
  have hbl := P2.out.blt
  clear P hI bA bB KA b2 hc hW2
  obtain ⟨ea, ec, rfl, _, _⟩ := P2.out.oe.shape
  obtain ⟨⟨_, _, _, q3⟩, q4, _⟩ := P2.out.get
  have kq3 := fun d os => cell_regrown q3 d os
  have kq4 := fun d os => cell_regrown q4 d os
  by_cases h : S.sy = S.recs.length
  · have t1 : ((S.sy : Int) == (S.recs.length : Int)) = true := by rw [beq_iff_eq, h]
    rw [if_pos h]
    clear h
    go_enter Try.func53, Try.ntmps53
    go_wp2_with fail
    rw [HW2.out]
    refine wp_region_quiet_below (by kernel_rfl) (by kernel_rfl) ?_
    repeat (first | go_big_quiet_skip | quiet_step (fail))
    refine wpQuiet_nil ?_
    intro _ hw'
    obtain ⟨⟨dq, osq⟩, hw''⟩ := hw'
    subst hw''
    have bq := below_regrown W2 dq osq
    generalize grow (redrawn W2 dq) osq = wq at bq ⊢
    clear kq3 kq4 q3 q4
    go_wp2
    go_ret
    exact DoP.mk rfl ((P2.out.below bq).mono (fun k hk => .inl hk)) (F2.out.trans (Fs.of_below bq))
  · have t1 : ((S.sy : Int) == (S.recs.length : Int)) = false := by rw [beq_eq_false_iff_ne]; omega
    rw [if_neg h]
    clear h
    go_enter Try.func53, Try.ntmps53
    go_wp2_with fail
    rw [HW2.out]
    refine wp_region_quiet_below (by kernel_rfl) (by kernel_rfl) ?_
    repeat (first | go_big_quiet_skip | quiet_step (fail))
    refine wpQuiet_nil ?_
    intro _ hw'
    obtain ⟨⟨dq, osq⟩, hw''⟩ := hw'
    subst hw''
    have bq := below_regrown W2 dq osq
    generalize grow (redrawn W2 dq) osq = wq at bq ⊢
    have PX := Lib.hid (P2.out.below bq)
    have FX := Lib.hid (F2.out.trans (Fs.of_below bq))
    have KX := K1.out.below bq
    have k0 := KX.get 0 _ rfl
    have k1 := KX.get 1 _ rfl
    have k2 := KX.get 2 _ rfl
    have k3 := KX.get 3 _ rfl
    have k4 := KX.get 4 _ rfl
    have k5 := KX.get 5 _ rfl
    clear kq3 kq4 q3 q4 KX bq
    go_wp2_with fail
    refine (PlCrash_any t bs _ PX.out HIN.out hs hn6).mono ?_
    rintro e w3 ⟨rfl, ⟨_, _, _, _, _, _, P3⟩, F3⟩
    have P3 := Lib.hid (P3.mono (Bm.mono FX.out.size))
    have F3 := Lib.hid (FX.out.trans F3)
    go_wp2
    go_ret
    exact DoP.mk rfl P3.out F3.out
set_option maxRecDepth 100000 in
set_option maxHeartbeats 4000000 in
theorem PlDo_10 {ad : Option Addr} {xss : List (List Int)} {m c b sm wk n a : Nat} {B : Nat → Prop} {S : PS} {vl vr ve vh vw vo : Value} (t bs : Int) (w : World) (P : PlIs w b 0 B S vl vr ve vh vw vo) (hI : PInv n sm wk S) (hs : 1 ≤ sm ∧ sm ≤ 8) (hwk : 1 ≤ wk ∧ wk ≤ 4) (hc : SlII w (.slice ad m c) xss) (hch : chainOk n t xss = true) (hbs : 0 ≤ bs ∧ bs ≤ 999999992) (ha : a ≤ 999) :
    Calls Try.prog 53 #[.pointer (some ⟨b, 0, none⟩), .agg #[.int .i64 n, .int .i64 t, .slice ad m c, .int .i64 bs, .int .i64 sm, .int .i64 wk], .agg #[.int .i64 10, .int .i64 a]] w (DoP b B (doS t xss bs sm wk (10, (a : Int)) S) w) := by
  rw [show doS t xss bs sm wk (10, (a : Int)) S = if (wk : Int) ≤ a then (2, S) else (0, handOff a S) by unfold doS; simp]
  have HIN := Lib.hid hI
  have HPO := Lib.hid (hI.plOk hs.1 hs.2)
  have hn6 : n ≤ 6 := by have := (chainOk_parts0 hch).1; omega
  have HB := Lib.hid P.ownB
  have HL := Lib.hid P.ownLt
  have bA : Below w.heap.size w (w.alloc (.cells #[.int .i64 n, .int .i64 t, .slice ad m c, .int .i64 bs, .int .i64 sm, .int .i64 wk] 35)) := (Below.refl _ _).alloc (Nat.le_refl _) _
  have KA := CellsAt.new w [.int .i64 n, .int .i64 t, .slice ad m c, .int .i64 bs, .int .i64 sm, .int .i64 wk] 35
  have bB : Below (w.alloc (.cells #[.int .i64 n, .int .i64 t, .slice ad m c, .int .i64 bs, .int .i64 sm, .int .i64 wk] 35)).heap.size (w.alloc (.cells #[.int .i64 n, .int .i64 t, .slice ad m c, .int .i64 bs, .int .i64 sm, .int .i64 wk] 35)) ((w.alloc (.cells #[.int .i64 n, .int .i64 t, .slice ad m c, .int .i64 bs, .int .i64 sm, .int .i64 wk] 35)).alloc (.cells #[.int .i64 10, .int .i64 a] 68)) := (Below.refl _ _).alloc (Nat.le_refl _) _
  obtain ⟨W2, hW2⟩ : ∃ W2, W2 = (w.alloc (.cells #[.int .i64 n, .int .i64 t, .slice ad m c, .int .i64 bs, .int .i64 sm, .int .i64 wk] 35)).alloc (.cells #[.int .i64 10, .int .i64 a] 68) := ⟨_, rfl⟩
  have K1 := Lib.hid (show CellsAt W2 w.heap.size [.int .i64 n, .int .i64 t, .slice ad m c, .int .i64 bs, .int .i64 sm, .int .i64 wk] by rw [hW2]; exact KA.below bB)
  have K2 := Lib.hid (show CellsAt W2 (w.heap.size + 1) [.int .i64 10, .int .i64 a] by rw [hW2]; exact CellsAt.new' (w.alloc (.cells #[.int .i64 n, .int .i64 t, .slice ad m c, .int .i64 bs, .int .i64 sm, .int .i64 wk] 35)) [.int .i64 10, .int .i64 a] 68 (by simp))
  rw [← hW2] at bB
  have b2 : Below w.heap.size w W2 := bA.trans (bB.mono bA.size)
  have P2 := Lib.hid (P.below b2)
  have F2 := Lib.hid (Fs.of_below (S := B) b2)
  have HZ2 := Lib.hid b2.size
  have HS2 := Lib.hid (show w.heap.size + 2 = W2.heap.size by rw [hW2]; simp)
  have HC := Lib.hid (hc.below b2)
  have HW2 := Lib.hid hW2.symm
  have hbl := P2.out.blt
  clear P hI bA bB KA b2 hc hW2
  have hw : IntKind.i64.wrap ((wk : Int) - 1) = (wk : Int) - 1 := IntWalk.i64_in _ (by omega)
  have HHL := Lib.hid HIN.out.hl
  have k1 := K2.out.get 1 _ rfl
  by_cases hr : (wk : Int) ≤ a
  · rw [if_pos hr]
    have HI := Lib.hid (show inR (a : Int) 0 ((wk : Int) - 1) = false from inR_false.2 (by omega))
    clear hr
    go_enter Try.func53, Try.ntmps53
    go_wp2_with (go_at_call 71; refine (inRange_any _ _ _ _).mono ?_; rintro e w' ⟨rfl, rfl⟩; rw [HI.out])
    rw [HW2.out]
    go_ret
    exact DoP.mk rfl (P2.out.mono (fun k hk => .inl hk)) F2.out
  · rw [if_neg hr]
    have HI := Lib.hid (show inR (a : Int) 0 ((wk : Int) - 1) = true from inR_iff.2 ⟨by omega, by omega⟩)
    have hal : a < S.hands.length := by rw [HHL.out]; omega
    obtain ⟨g, hcp, rfl, _⟩ := P2.out.oh.form (by omega)
    have a0 : (0 : Int) ≤ (a : Int) := by omega
    have a1 : (a : Int) < (S.hands.length : Int) := by omega
    have CW := Lib.hid (show ∀ W, Below W2.heap.size W2 W → (W.cell? ⟨b, 5, none⟩ = some (.slice (some ⟨g, 0, none⟩) S.hands.length hcp) ∧ W.cell? ⟨w.heap.size + 1, 1, none⟩ = some (.int .i64 a)) from fun W h => ⟨(P2.out.below h).get.2.2.1, (K2.out.below h).get 1 _ rfl⟩)
    have HAL := Lib.hid hal
    clear hr k1
    go_enter Try.func53, Try.ntmps53
    go_wp2_with fail
    rw [HW2.out]
    refine (inRange_any _ _ _ _).mono ?_
    rintro e w' ⟨rfl, rfl⟩
    rw [HI.out]
    go_wp2_with fail
    refine wpX_start (fun W => W.cell? ⟨b, 5, none⟩ = some (.slice (some ⟨g, 0, none⟩) S.hands.length hcp) ∧ W.cell? ⟨w.heap.size + 1, 1, none⟩ = some (.int .i64 a)) [8] (by kernel_rfl) ?_
    have hC := CW.out W2.drew (Below.refl W2.heap.size W2).drew
    refine wpX_free (i := 0) (v := ?_) rfl (by kernel_rfl) (fun _ _ _ h => h) rfl (fun w' => ?_) ?_
    rotate_left
    · go_simp; try with_reducible rfl
    try simp only [Act.put, List.setIfInBounds_toArray, List.set_cons_zero, List.set_cons_succ]
    refine wpX_free (i := 1) (v := ?_) rfl (by kernel_rfl) (fun _ _ _ h => h) rfl (fun w' => ?_) ?_
    rotate_left
    · go_simp; try with_reducible rfl
    try simp only [Act.put, List.setIfInBounds_toArray, List.set_cons_zero, List.set_cons_succ]
    refine wpX_free (i := 2) (v := ?_) rfl (by kernel_rfl) (fun _ _ _ h => h) rfl (fun w' => ?_) ?_
    rotate_left
    · go_simp; try with_reducible rfl
    try simp only [Act.put, List.setIfInBounds_toArray, List.set_cons_zero, List.set_cons_succ]
    refine wpX_load (i := 3) (v := ?_) rfl (by kernel_rfl) (fun _ _ _ h => h) hC rfl (fun w' hw' => ?_) ?_
    rotate_left
    · obtain ⟨k1, k2⟩ := hw'; go_simp; try with_reducible rfl
    try simp only [Act.put, List.setIfInBounds_toArray, List.set_cons_zero, List.set_cons_succ]
    refine wpX_free (i := 4) (v := ?_) rfl (by kernel_rfl) (fun _ _ _ h => h) rfl (fun w' => ?_) ?_
    rotate_left
    · go_simp; try with_reducible rfl
    try simp only [Act.put, List.setIfInBounds_toArray, List.set_cons_zero, List.set_cons_succ]
    refine wpX_load (i := 5) (v := ?_) rfl (by kernel_rfl) (fun _ _ _ h => h) hC rfl (fun w' hw' => ?_) ?_
    rotate_left
    · obtain ⟨k1, k2⟩ := hw'; go_simp; try with_reducible rfl
    try simp only [Act.put, List.setIfInBounds_toArray, List.set_cons_zero, List.set_cons_succ]
    refine wpX_free (i := 6) (v := ?_) rfl (by kernel_rfl) (fun _ _ _ h => h) rfl (fun w' => ?_) ?_
    rotate_left
    · go_simp; try with_reducible rfl
    try simp only [Act.put, List.setIfInBounds_toArray, List.set_cons_zero, List.set_cons_succ]
    refine wpX_free (i := 7) (v := ?_) rfl (by kernel_rfl) (fun _ _ _ h => h) rfl (fun w' => ?_) ?_
    rotate_left
    · go_simp; try with_reducible rfl
    try simp only [Act.put, List.setIfInBounds_toArray, List.set_cons_zero, List.set_cons_succ]
    refine wpX_rest (t := [8]) (l := [_]) rfl (by kernel_rfl) (by kernel_rfl) ?_
    clear hC
    have P3 := P2.out
    have f0 := P3.oh.free (a * 3)
    have f1 := P3.oh.free (a * 3 + 1)
    have f2 := P3.oh.free (a * 3 + 2)
    obtain ⟨y0, y1, y2⟩ := FHand_cell P3.oh HAL.out
    have PN := P3.part0 (S' := handOff a S) 3 (c' := FHand.ch (.slice (some ⟨g, 0, none⟩) S.hands.length hcp) (S.hands.set a noHand)) rfl rfl rfl (w2 := ((W2.setCell ⟨g, a * 3, none⟩ (.bool false)).setCell ⟨g, a * 3 + 1, none⟩ (.int .i64 0)).setCell ⟨g, a * 3 + 2, none⟩ (.int .i64 0)) (grown_set3 _ g _ _ _ _ _ _) (FHand.set_cells P3.oh a noHand HAL.out) rfl P3.len P3.pos
    have FY := F2.out.trans (Fs.of_grown (S := B) (grown_set3 W2 g (a * 3) (a * 3 + 1) (a * 3 + 2) (.bool false) (.int .i64 0) (.int .i64 0)) (fun k hk => P3.inB 4 k (by rw [← hk]; rfl)))
    have PN := Lib.hid (PN.below (Below.refl _ _).drew)
    have FY := Lib.hid (FY.trans (Fs.of_below (Below.refl _ _).drew))
    clear P3
    go_wp2
    go_ret
    exact DoP.mk rfl (PN.out.mono (fun k hk => .inl hk)) FY.out
end Go.Proofs.Ytijpkcdalmlaiaa
