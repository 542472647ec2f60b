/-
  What the laws draw from bytes: chains, draws, numbers (A2Chain, A2Draws, a2At, a2Long). With it: The chains that the laws draw: reversible ones (l02Even). The services that the laws draw: l09Chain, l09Drawn, A2Service. Records that the laws draw: l00Min, l09AnyRecord.
-/
import Derived.Test.YtijpkcdalmlaiaaZRowFnPlantPackets28
import Derived.Test.YtijpkcdalmlaiaaZRowFnPlantPackets1
import Derived.Deep.RegionHeld
import Derived.Test.YtijpkcdalmlaiaaZRowFnPlantPackets6
import Derived.Deep.DeepCutAuto
set_option linter.unusedVariables false
set_option linter.unusedSimpArgs false
namespace Go.Proofs.Ytijpkcdalmlaiaa
open Go.RowKit Go.Sort
theorem wp_make_i64 {o : Oper} {a : Act} {K : Act → World → Prop} {Q : Exit → Act → World → Prop} (w : World) (l c : Operand) (hop : o.op = Op.makeSlice 30 l c) (n : Nat) {kl kc : IntKind} (hl : a.eval l = .int kl (n : Int)) (hc : a.eval c = .int kc (n : Int)) (hn : n ≤ 16777216) {H : Nat} (hH : w.heap.size = H)
    (hK : ∀ w', OwnI w' H (.slice (some ⟨H, 0, none⟩) n n) (List.replicate n 0) → Below H w w' → H < w'.heap.size → K (a.put o.dst (.slice (some ⟨H, 0, none⟩) n n)) w') : Oper.wp Try.prog o a w K Q := by
  subst hH
  obtain ⟨i0, hi, hz0, hz1, hz2⟩ := info_parts info2
  obtain ⟨w', hrun, r1, r2⟩ := run_make_full (P := Try.prog) w w.heap.size 30 2 i0 (.int .i64 0) 1 Try.underlying30 hi hz0 hz1 kl kc n (by rw [hz2]; omega) (by simp [maxLen]; omega) (Nat.le_refl _)
  rw [madeCells_i64] at r1
  unfold Oper.wp execOp
  simp only [hop, hl, hc, Sem.run_bind, hrun, Sem.run_pure, Result.andThen_ok]
  exact hK w' (by unfold OwnI; rw [List.length_replicate]; exact r1) ((Below.refl _ _).grown r2 (Nat.le_refl _) (by simp)) (r1.lt w.heap.size rfl).2
def EvenC (n i : Nat) (xss : List (List Int)) : Prop := xss.length = n ∧ ∀ j r, xss[j]? = some r → r.length = n ∧ ((j < i → (∀ x ∈ r, 0 ≤ x ∧ x ≤ 12) ∧ r.sum = 12) ∧ (i ≤ j → (∀ x ∈ r, 0 ≤ x ∧ x ≤ 3) ∧ r.getD j 0 = 0))
theorem evenC_zero (n : Nat) : EvenC n 0 (List.replicate n (List.replicate n 0)) := by
  refine ⟨by simp, fun j r hr => ?_⟩
  rw [List.getElem?_replicate] at hr
  split at hr
  · cases hr
    refine ⟨by simp, fun h => by omega, fun _ => ⟨fun x hx => by rw [List.eq_of_mem_replicate hx]; omega, ?_⟩⟩
    rw [List.getD_eq_getElem?_getD, List.getElem?_replicate]; split <;> rfl
  · cases hr
theorem EvenC.set {n : Nat} {xss : List (List Int)} (h : EvenC n 0 xss) {i k : Nat} {r : List Int} (hr : xss[i]? = some r) {x : Int} (hx : 0 ≤ x ∧ x ≤ 3) (hik : i ≠ k) : EvenC n 0 (xss.set i (r.set k x)) := by
  refine ⟨by rw [List.length_set]; exact h.1, fun j r2 hj => ?_⟩
  by_cases e : i = j
  · subst e
    rw [List.getElem?_set_self (List.getElem?_eq_some_iff.1 hr).1] at hj
    cases hj
    obtain ⟨h1, _, h2⟩ := h.2 i r hr
    obtain ⟨h2, h3⟩ := h2 (Nat.zero_le _)
    refine ⟨by simp [h1], fun h => by omega, fun _ => ⟨fun y hy => ?_, ?_⟩⟩
    · rcases List.mem_or_eq_of_mem_set hy with hy | rfl
      · exact h2 y hy
      · exact hx
    · rw [List.getD_eq_getElem?_getD, List.getElem?_set_ne (Ne.symm hik), ← List.getD_eq_getElem?_getD]; exact h3
  · rw [List.getElem?_set_ne e] at hj
    exact h.2 j r2 hj
theorem sum3 : ∀ {r : List Int}, (∀ x ∈ r, 0 ≤ x ∧ x ≤ 3) → 0 ≤ r.sum ∧ r.sum ≤ 3 * r.length
  | [], _ => by simp
  | a :: r, h => by
    have := sum3 (r := r) (fun x hx => h x (by simp [hx]))
    have := h a (by simp)
    rw [List.sum_cons, List.length_cons]
    push_cast
    omega
theorem EvenC.step {n : Nat} {xss : List (List Int)} {i : Nat} (hn : n ≤ 4) (h : EvenC n i xss) {r : List Int} (hr : xss[i]? = some r) : EvenC n (i + 1) (xss.set i (r.set i (12 - r.sum))) := by
  obtain ⟨h1, _, h2⟩ := h.2 i r hr
  obtain ⟨h2, h3⟩ := h2 (Nat.le_refl _)
  have hil : i < r.length := by have := (List.getElem?_eq_some_iff.1 hr).1; have := h.1; omega
  have hs := sum3 h2
  refine ⟨by rw [List.length_set]; exact h.1, fun j r2 hj => ?_⟩
  by_cases e : i = j
  · subst e
    rw [List.getElem?_set_self (List.getElem?_eq_some_iff.1 hr).1] at hj
    cases hj
    refine ⟨by simp [h1], fun _ => ⟨fun y hy => ?_, ?_⟩, fun h => by omega⟩
    · rcases List.mem_or_eq_of_mem_set hy with hy | rfl
      · have := h2 y hy; omega
      · omega
    · have e1 := sum_set (n := 12 - r.sum) hil
      rw [gD_at hil] at h3
      rw [h3, Int.zero_add] at e1
      rw [e1]; omega
  · rw [List.getElem?_set_ne e] at hj
    obtain ⟨k1, k2, k3⟩ := h.2 j r2 hj
    exact ⟨k1, fun hlt => k2 (by omega), fun hle => k3 (by omega)⟩
theorem EvenC.rows {n : Nat} {xss : List (List Int)} (h : EvenC n n xss) : RowsP n 12 xss := by
  intro r hr
  obtain ⟨j, hj, rfl⟩ := List.getElem_of_mem hr
  obtain ⟨h1, h2, _⟩ := h.2 j _ (List.getElem?_eq_getElem hj)
  obtain ⟨h3, h4⟩ := h2 (by have := h.1; omega)
  exact ⟨h1, h3, h4⟩

set_option maxRecDepth 100000 in
set_option maxHeartbeats 16000000 in
theorem l02Even_any (b K : Nat) (w : World) (hs : SrcB w b K) (hK : K ≤ 10000) :
    Calls Try.prog 127 #[.pointer (some ⟨b, 0, none⟩)] w fun e w' => ∃ (n t : Nat) (v : Value) (xss : List (List Int)), e = .returned (.agg #[.int .i64 n, .int .i64 t, v]) ∧ n ≤ 4 ∧ chainOk n t xss = true ∧ OwnII w' w.heap.size v xss ∧ SrcB w' b (K + 200) ∧ Fs (fun k => k = b) w w' := by
  have hbw := hs.lt
  have hA : Below w.heap.size w (w.alloc (.cells #[.int .i64 0, .int .i64 0, .slice none 0 0] 33)) := (Below.refl _ _).alloc (Nat.le_refl _) _
  have S1 := Lib.hid (hs.below hA)
  have FA := Lib.hid (Fs.of_below (S := fun k => k = b) hA)
  have R1 := Lib.hid (Box3.new w 0 0 (.slice none 0 0))
  obtain ⟨W1, hW1⟩ : ∃ W1, W1 = w.alloc (.cells #[.int .i64 0, .int .i64 0, .slice none 0 0] 33) := ⟨_, rfl⟩
  rw [← hW1] at S1 FA R1
  have Z1 := Lib.hid (show W1.heap.size = w.heap.size + 1 by rw [hW1]; simp)
  have HW1 := Lib.hid hW1
  clear hs hA hW1
  go_enter Try.func127, Try.ntmps127
  go_wp2_with fail
  rw [← HW1.out]
  refine (pick_any b K 4 _ S1.out (by omega)).mono ?_
  rintro e w2 ⟨y, rfl, hy0, hy1, s2, g2⟩
  obtain ⟨y, rfl⟩ := Int.eq_ofNat_of_zero_le hy0
  obtain ⟨n, hn⟩ : ∃ n, n = y + 1 := ⟨_, rfl⟩
  have hn1 : 1 ≤ n := by omega
  have hn2 : n ≤ 4 := by omega
  have r1 : IntKind.i64.wrap (1 + (y : Int)) = (n : Int) := by rw [IntWalk.i64_in _ (by omega)]; omega
  have F1 := Lib.hid (FA.out.trans g2)
  have R2 := Lib.hid (R1.out.fs g2 (by omega))
  have hA3 : Below w2.heap.size w2 (w2.alloc (.cells #[.int .i64 n, .int .i64 12, .slice none 0 0] 33)) := (Below.refl _ _).alloc (Nat.le_refl _) _
  have S3 := Lib.hid (s2.below hA3)
  have F4 := Lib.hid (F1.out.trans (Fs.of_below hA3))
  have R5 := Lib.hid (R2.out.fs (S := fun _ => False) (Fs.of_below hA3) (fun h => h))
  have X3 := Lib.hid (Box3.new w2 n 12 (.slice none 0 0))
  have ZR := Lib.hid (show w.heap.size < w2.heap.size from R2.out.c.1)
  obtain ⟨W3, hW3⟩ : ∃ W3, W3 = w2.alloc (.cells #[.int .i64 n, .int .i64 12, .slice none 0 0] 33) := ⟨_, rfl⟩
  rw [← hW3] at S3 F4 R5 X3
  have HW3 := Lib.hid hW3
  have Z3 := Lib.hid (show W3.heap.size = w2.heap.size + 1 by rw [hW3]; simp)
  clear s2 g2 hA3 S1 FA R1 R2 F1 hW3 hy0 hy1 hn
  go_wp2
  rw [← HW3.out]
  go_loopw [5] (fun l wr => ∃ (i : Nat) (v : Value) (xss : List (List Int)), i ≤ n ∧ l = .int .i64 i ∧ Hid (xss = List.replicate i (List.replicate n 0)) ∧ xss.length = i ∧ Box3 wr w2.heap.size n 12 v ∧ OwnII wr (w2.heap.size + 1) v xss ∧ SrcB wr b (K + 2) ∧ Fs (fun k => k = w2.heap.size) W3 wr) (fun l _ => n - (intOf l).toNat)
  case atStart => exact ⟨0, _, [], Nat.zero_le _, rfl, rfl, rfl, X3.out, OwnII.nil _ _, S3.out, Fs.refl _ _⟩
  case round =>
    clear S3 X3
    obtain ⟨i, v, xss, hi, rfl, hxe, hxl, hbox, hown, hsrc, hf⟩ := hrel
    by_cases hlt : i < n
    · have i1 : (i : Int) < (n : Int) := by omega
      have c2 := hbox.c.get 2 _ rfl
      have zb := hbox.c.1
      have HBX := Lib.hid hbox
      have HO := Lib.hid hown.b
      have HS := Lib.hid hsrc
      have HF := Lib.hid hf
      have hxs : xss.length < 16777216 := by omega
      have hz3 : w2.heap.size + 1 ≤ wr.heap.size := by omega
      have hzz : w2.heap.size ≠ wr.heap.size := by omega
      clear hbox hown hsrc hf
      go_wp2_with fail
      refine wpX_start (fun W => W.cell? ⟨w2.heap.size, 2, none⟩ = some v) [5, 6, 7] (by kernel_rfl) ?_
      have hC : wr.drew.cell? ⟨w2.heap.size, 2, none⟩ = some v := by simpa using c2
      refine wpX_free (i := 0) (v := ?_) rfl (by kernel_rfl) (fun _ _ _ h => h) rfl (fun w' => ?_) ?_
      rotate_left
      · go_simp; try with_reducible rfl
      try simp only [Act.put, List.setIfInBounds_toArray, List.set_cons_zero, List.set_cons_succ]
      refine wpX_load (i := 1) (v := ?_) rfl (by kernel_rfl) (fun _ _ _ h => h) hC rfl (fun w' hw' => ?_) ?_
      rotate_left
      · go_simp; try with_reducible rfl
      try simp only [Act.put, List.setIfInBounds_toArray, List.set_cons_zero, List.set_cons_succ]
      refine wpX_free (i := 2) (v := ?_) rfl (by kernel_rfl) (fun _ _ _ h => h) rfl (fun w' => ?_) ?_
      rotate_left
      · go_simp; try with_reducible rfl
      try simp only [Act.put, List.setIfInBounds_toArray, List.set_cons_zero, List.set_cons_succ]
      refine wpX_one (i := 3) rfl (by kernel_rfl) rfl ?_
      intro K hK
      refine wp_make_i64 _ _ _ rfl n rfl rfl (by omega) (H := wr.heap.size) rfl ?_
      intro w5 o5 b5 z5
      have b5 : Below wr.heap.size wr w5 := (Below.refl wr.heap.size wr).drew.trans b5
      have hC5 : w5.cell? ⟨w2.heap.size, 2, none⟩ = some v := by rw [b5.cell (p := ⟨w2.heap.size, 2, none⟩) zb]; exact c2
      refine hK _ _ hC5 ?_
      clear hK K
      try simp only [Act.put, List.setIfInBounds_toArray, List.set_cons_zero, List.set_cons_succ]
      refine wpX_one (i := 4) rfl (by kernel_rfl) rfl ?_
      intro K hK
      go_simp
      have hA5 : Below w5.heap.size w5 (w5.alloc (.cells #[.slice (some ⟨wr.heap.size, 0, none⟩) n n] 30)) := (Below.refl _ _).alloc (Nat.le_refl _) _
      refine hK _ _ (by rw [hA5.cell (p := ⟨w2.heap.size, 2, none⟩) (by simp; omega)]; exact hC5) ?_
      clear hK K
      try simp only [Act.put, List.setIfInBounds_toArray, List.set_cons_zero, List.set_cons_succ]
      refine wpX_rest (t := [5, 6, 7]) (l := [_, _, _]) rfl (by kernel_rfl) (by kernel_rfl) ?_
      refine listAppRow _ (.tmp 23) (.tmp 26) rfl rfl (B := wr.heap.size) (u := .slice (some ⟨wr.heap.size, 0, none⟩) n n) (xs := List.replicate n 0) rfl ((HO.out.below b5).below hA5) ((o5.below hA5).lower hz3) (fun g hg => by simp [Value.ownBlock] at hg; omega) rfl (by simp [go_sem]) hxs (by simp; omega) ?_
      intro v6 w6 o6 g6
      have b6 : Below (w2.heap.size + 1) wr w6 := ((b5.trans (hA5.mono b5.size)).mono hz3).trans ((Below.refl _ _).grown g6 (by simp; omega) (fun k hk => (((HO.out.below b5).below hA5).lt k hk).1))
      obtain ⟨oa, on, oc, rfl, _⟩ := OwnII.formJ o6
      have X6 := HBX.out.fs (Fs.of_belowB b6) (by omega)
      have S6 := Lib.hid (HS.out.fs (Fs.of_belowB b6) (fun k hk => by have := ZR.out; omega))
      have F6 := Lib.hid (show Fs (fun k => k = w2.heap.size) W3 w6 from HF.out.then (Fs.of_belowB b6) (fun _ _ h => h) (fun k hk h => by have := Z3.out; omega))
      have q2 := X6.c.get 2 _ rfl
      have f6 := X6.f 2
      have s6 := X6.c.1
      have X6 := Lib.hid X6
      have O6 := Lib.hid o6
      clear o6 b6 g6 hA5 hC hC5 c2 b5 o5
      go_wp2
      go_roundw
      case rel => exact ⟨i + 1, _, xss ++ [List.replicate n 0], by omega, by go_num, Lib.hid (by rw [hxe.out, List.replicate_succ']), by simp [hxl], X6.out.set _, O6.out.setCell (by simp) _, S6.out.fs (Fs.set1 _ _ _ _) (fun k hk => by have := ZR.out; omega), F6.out.set (a := ⟨w2.heap.size, 2, none⟩) rfl _⟩
      case measure => simp [intOf]; omega
    · obtain rfl : i = n := by omega
      obtain ⟨gv, c, rfl, hgv, hgb⟩ := hown.formN (by omega)
      rw [hxl] at hown hbox
      have HE := Lib.hid (show EvenC i 0 xss by rw [hxe.out]; exact evenC_zero i)
      obtain ⟨B, hB⟩ : ∃ B, B = wr.heap.size := ⟨_, rfl⟩
      have HBX := Lib.hid hbox
      have HO := Lib.hid hown.b
      rw [← hB] at HO hgv
      have HB0 := Lib.hid hB
      have HS := Lib.hid hsrc
      have HF := Lib.hid (show Fs (fun k => k = b ∨ w2.heap.size ≤ k) W3 wr from hf.cut (fun k _ h => .inr (by omega)))
      clear hbox hown hsrc hf hxe hB
      obtain ⟨wo, hwo⟩ : ∃ wo : World, wo = wr := ⟨_, rfl⟩
      subst hwo
      go_wp2
      go_loopw [6, 7, 8] (fun l _ _ wr => ∃ (q : Nat) (xss : List (List Int)), q ≤ i ∧ l = .int .i64 q ∧ Hid (EvenC i 0 xss) ∧ Box3 wr w2.heap.size i 12 (.slice (some ⟨gv, 0, none⟩) i c) ∧ OwnIIB wr (w2.heap.size + 1) B (.slice (some ⟨gv, 0, none⟩) i c) xss ∧ SrcB wr b (K + 2 + 8 * q) ∧ Fs (fun k => k = b ∨ w2.heap.size ≤ k) W3 wr) (fun l _ _ _ => i - (intOf l).toNat)
      case atStart => exact ⟨0, xss, Nat.zero_le _, rfl, HE.out, HBX.out, HO.out, HS.out, HF.out⟩
      case round =>
        clear HE HBX HO HS HF hxl hlt
        clear xss
        obtain ⟨q, xss, hq, rfl, hev, hbox, hown, hsrc, hf⟩ := hrel
        have HBX := Lib.hid hbox
        have HO := Lib.hid hown
        have HS := Lib.hid hsrc
        have HF := Lib.hid hf
        clear hbox hown hsrc hf
        by_cases hlt : q < i
        · have i1 : (q : Int) < (i : Int) := by omega
          go_wp2
          go_loopw [7, 8] (fun l _ wr => ∃ (k : Nat) (xss : List (List Int)), k ≤ q ∧ l = .int .i64 k ∧ Hid (EvenC i 0 xss) ∧ Box3 wr w2.heap.size i 12 (.slice (some ⟨gv, 0, none⟩) i c) ∧ OwnIIB wr (w2.heap.size + 1) B (.slice (some ⟨gv, 0, none⟩) i c) xss ∧ SrcB wr b (K + 2 + 8 * q + 2 * k) ∧ Fs (fun k => k = b ∨ w2.heap.size ≤ k) W3 wr) (fun l _ _ => q - (intOf l).toNat)
          case atStart => exact ⟨0, xss, Nat.zero_le _, rfl, hev, HBX.out, HO.out, HS.out, HF.out⟩
          case round =>
            clear HBX HO HS HF hev
            clear xss
            obtain ⟨k, xss, hk, rfl, hev, hbox, hown, hsrc, hf⟩ := hrel
            have HBX := Lib.hid hbox
            have HO := Lib.hid hown
            have HS := Lib.hid hsrc
            have HF := Lib.hid hf
            clear hbox hown hsrc hf
            by_cases hkq : k < q
            · have i2 : (k : Int) < (q : Int) := by omega
              go_wp2_with fail
              refine (pick_any b _ 4 _ HS.out (by omega)).mono ?_
              rintro e w5 ⟨x, rfl, hx0, hx1, s5, g5⟩
              have hx : 0 ≤ x ∧ x ≤ 3 := by omega
              have X5 := Lib.hid (HBX.out.fs g5 (by have := ZR.out; omega))
              have O5 := Lib.hid (OwnIIB.fsJ HO.out g5 (fun k hk => by have := ZR.out; omega))
              have S5 := Lib.hid (s5.more (K' := K + 2 + 8 * q + 2 * (k + 1)) (by omega))
              have F5 := Lib.hid (show Fs (fun k => k = b ∨ w2.heap.size ≤ k) W3 w5 from HF.out.then g5 (fun _ _ h => h) (fun _ _ h => .inl h))
              clear s5 g5 hx0 hx1 HBX HO HS HF
              have hqx : q < xss.length := by have := hev.out.1; omega
              have hkx : k < xss.length := by omega
              have hri := List.getElem?_eq_getElem hqx
              have hrk := List.getElem?_eq_getElem hkx
              have hl1 := (hev.out.2 q _ hri).1
              have hl2 := (hev.out.2 k _ hrk).1
              have e1 := hev.out.set hri hx (by omega : q ≠ k)
              generalize xss[q] = r1 at hri hl1 e1
              have hrk2 : (xss.set q (r1.set k x))[k]? = some xss[k] := by rw [List.getElem?_set_ne (by omega)]; exact hrk
              have e2 := e1.set hrk2 hx (by omega : k ≠ q)
              generalize xss[k] = r2 at hrk hl2 hrk2 e2
              have HEV := Lib.hid e2
              obtain ⟨g1, rc1, a1, a2, a3, a4, a7, a8⟩ := O5.out.rowOf hri hl1 (by omega)
              have fa := a2.free k
              have N1 := a8 _ _ (Fs.set1 w5 g1 k (.int .i64 x)) (a2.set k x)
              obtain ⟨g2, rc2, b1, b2, b3, b4, b7, b8⟩ := N1.rowOf hrk2 hl2 (by omega)
              rw [World.cell?_setCell_far _ _ _ _ (show g1 ≠ gv from fun e => a7 e.symm)] at b1
              have fb : w5.frozen? ⟨g2, q, none⟩ = false := by simpa using b2.free q
              have HN := Lib.hid (b8 _ _ (Fs.set1 _ g2 q (.int .i64 x)) (b2.set q x))
              have HFS := Lib.hid (show Fs (fun k => w2.heap.size + 1 ≤ k) w5 _ from (Fs.set1 w5 g1 k (.int .i64 x)).then (Fs.set1 _ g2 q (.int .i64 x)) (fun _ _ h => by rw [h]; exact a3) (fun _ _ h => by rw [h]; exact b3))
              have ca := a2.cell (i := k) (by omega)
              have cb := b2.cell (i := q) (by omega)
              have c2 := X5.out.c.get 2 _ rfl
              have ix0 : (0 : Int) ≤ (k : Int) := by omega
              have ix1 : (k : Int) < (i : Int) := by omega
              have iz0 : (0 : Int) ≤ (q : Int) := by omega
              have hg1 : w2.heap.size ≠ g1 := by omega
              have hg1' : g1 ≠ w2.heap.size := by omega
              have hg2 : g1 ≠ gv := fun e => a7 e.symm
              have hw1 : g1 < w5.heap.size := cell_lt ca
              have hw2 : g2 < w5.heap.size := by have := cell_lt cb; simpa using this
              clear a2 a8 b2 b8 N1 hri hrk hrk2 e1 e2
              go_wp2
              go_roundw
              case rel => exact ⟨k + 1, _, by omega, by go_num, HEV.out, X5.out.fs HFS.out (by omega), HN.out, S5.out.fs HFS.out (fun k hk => by have := ZR.out; omega), F5.out.then HFS.out (fun _ _ h => h) (fun k _ h => .inr (by omega))⟩
              case measure => simp [intOf]; omega
            · obtain rfl : k = q := by omega
              go_wp2
              go_roundw
              case rel => exact ⟨k + 1, xss, by omega, by go_num, hev, HBX.out, HO.out, HS.out.more (by omega), HF.out⟩
              case measure => simp [intOf]; omega
        · obtain rfl : q = i := by omega
          obtain ⟨wp, hwp⟩ : ∃ wp : World, wp = wr := ⟨_, rfl⟩
          subst hwp
          go_wp2
          go_loopw [9, 10, 11] (fun l _ _ wr => ∃ (k : Nat) (xss : List (List Int)), k ≤ q ∧ l = .int .i64 k ∧ Hid (EvenC q k xss) ∧ Box3 wr w2.heap.size q 12 (.slice (some ⟨gv, 0, none⟩) q c) ∧ OwnIIB wr (w2.heap.size + 1) B (.slice (some ⟨gv, 0, none⟩) q c) xss ∧ SrcB wr b (K + 200) ∧ Fs (fun k => k = b ∨ w2.heap.size ≤ k) W3 wr) (fun l _ _ _ => q - (intOf l).toNat)
          case atStart => exact ⟨0, xss, Nat.zero_le _, rfl, hev, HBX.out, HO.out, HS.out.more (by omega), HF.out⟩
          case round =>
            clear HBX HO HS HF hev hlt
            clear xss
            obtain ⟨k, xss, hk, rfl, hev, hbox, hown, hsrc, hf⟩ := hrel
            have HBX := Lib.hid hbox
            have HO := Lib.hid hown
            have HS := Lib.hid hsrc
            have HF := Lib.hid hf
            clear hbox hown hsrc hf
            by_cases hkq : k < q
            · have i2 : (k : Int) < (q : Int) := by omega
              have hkx : k < xss.length := by have := hev.out.1; omega
              have hrk := List.getElem?_eq_getElem hkx
              have hst := hev.out.step hn2 hrk
              have hl1 := (hev.out.2 k _ hrk).1
              have hpp := ((hev.out.2 k _ hrk).2.2 (Nat.le_refl _)).1
              generalize xss[k] = r at hrk hst hl1 hpp
              have HST := Lib.hid hst
              have HPP := Lib.hid hpp
              obtain ⟨g1, rc1, a1, a2, a3, a4, a7, a8⟩ := HO.out.rowOf hrk hl1 (by omega)
              have fa := a2.free k
              have A2 := Lib.hid a2
              have A8 := Lib.hid a8
              have c2 := HBX.out.c.get 2 _ rfl
              have ik0 : (0 : Int) ≤ (k : Int) := by omega
              have hg1 : w2.heap.size ≠ g1 := by omega
              have hg1' : g1 ≠ w2.heap.size := by omega
              have hg2 : g1 ≠ gv := fun e => a7 e.symm
              have hw1 : g1 < wr.heap.size := by have := cell_lt (a2.cell (i := k) (by omega)); exact this
              clear hst hpp a2 a8 hrk
              go_wp2
              go_loop [10, 11] (fun s l => ∃ z : Nat, z ≤ q ∧ l = .int .i64 z ∧ s = .int .i64 ((r.take z).sum)) (fun _ l => q - (intOf l).toNat)
              case atStart => exact ⟨0, Nat.zero_le _, rfl, by simp⟩
              case round =>
                obtain ⟨z, hz, rfl, rfl⟩ := hrel
                have hs3 := sum3 (r := r.take z) (fun x hx => HPP.out x (List.mem_of_mem_take hx))
                have hlt3 : (r.take z).length ≤ z := List.length_take_le _ _
                have hsb : (r.take z).sum ≤ 12 := by omega
                have hs0 := hs3.1
                clear hs3
                by_cases hzq : z < q
                · have i3 : (z : Int) < (q : Int) := by omega
                  have iz0 : (0 : Int) ≤ (z : Int) := by omega
                  have hzl : z < r.length := by omega
                  have gz := A2.out.cell hzl
                  have hts : (r.take (z + 1)).sum = (r.take z).sum + r[z] := by rw [List.take_succ_eq_append_getElem hzl, List.sum_append, List.sum_cons, List.sum_nil, Int.add_zero]
                  have hrz := HPP.out _ (List.getElem_mem hzl)
                  generalize r[z] = x at gz hts hrz
                  have HTS := Lib.hid hts
                  generalize hsv : (r.take z).sum = sv at hsb hs0
                  have HSV := Lib.hid hsv
                  clear hts hsv hlt3
                  go_wp2
                  go_round
                  case rel => exact ⟨z + 1, by omega, by go_num, by rw [HTS.out, HSV.out]⟩
                  case measure => simp [intOf]; omega
                · obtain rfl : z = q := by omega
                  have htl : (r.take z).sum = r.sum := by rw [List.take_of_length_le (by omega)]
                  rw [htl] at hsb hs0 ⊢
                  generalize hsv : r.sum = sv at hsb hs0
                  have HSV := Lib.hid hsv
                  clear hsv htl hlt3
                  have gk := A2.out.cell (show k < r.length by omega)
                  go_wp2
                  have hfs := Lib.hid (Fs.set1 wr g1 k (.int .i64 (12 - sv)))
                  have hrow := Lib.hid (A2.out.set k (12 - sv))
                  have HN := Lib.hid (A8.out _ _ hfs.out hrow.out)
                  have HE := Lib.hid (show EvenC z (k + 1) (xss.set k (r.set k (12 - sv))) by rw [← HSV.out]; exact HST.out)
                  go_roundw
                  case rel => exact ⟨k + 1, _, by omega, by go_num, HE.out, HBX.out.fs hfs.out (by omega), HN.out, HS.out.fs hfs.out (fun k hk => by have := ZR.out; omega), HF.out.then hfs.out (fun _ _ h => h) (fun k _ h => .inr (by omega))⟩
                  case measure => simp [intOf]; omega
            · obtain rfl : k = q := by omega
              have hf3 : Fs (fun k => k = b ∨ w2.heap.size ≤ k) w wr := F4.out.then HF.out (fun _ _ h => .inl h) (fun _ _ h => h)
              have R6 := R5.out.fs HF.out (by have := ZR.out; omega)
              have c0 := HBX.out.c.get 0 _ rfl
              have c1 := HBX.out.c.get 1 _ rfl
              have c2 := HBX.out.c.get 2 _ rfl
              have q0 := R6.c.get 0 _ rfl
              have q1 := R6.c.get 1 _ rfl
              have q2 := R6.c.get 2 _ rfl
              have f0 := R6.f 0
              have f1 := R6.f 1
              have f2 := R6.f 2
              have zz := R6.c.1
              have HCH := Lib.hid (chain_drawn (t := 12) hn1 (by omega) (by omega) (by omega) hev.out.1 hev.out.rows)
              have HO2 := Lib.hid HO.out.ii
              have HF3 := Lib.hid hf3
              clear R6 hf3
              go_wp2
              refine bodyPost_ret (v := .agg #[.int .i64 k, .int .i64 12, .slice (some ⟨gv, 0, none⟩) k c]) (by simp [results, Try.results127, go_sem, c0, c1, c2, q0, q1, q2, zz]) rfl ⟨k, 12, _, xss, rfl, hn2, HCH.out, ?_, ?_, ?_⟩
              · exact (((HO2.out.setCell (by have := ZR.out; simp; omega) _).setCell (by have := ZR.out; simp; omega) _).setCell (by have := ZR.out; simp; omega) _).lower (by have := ZR.out; omega)
              · exact HS.out.fs (Fs.set3 _ _ _ _ _) (fun k hk => by omega)
              · exact HF3.out.then (Fs.set3 wr w.heap.size (.int .i64 k) (.int .i64 12) (.slice (some ⟨gv, 0, none⟩) k c)) (fun k hk h => h.elim id (fun h => by have := ZR.out; omega)) (fun k hk h => by omega)
end Go.Proofs.Ytijpkcdalmlaiaa
namespace Go.Proofs.Ytijpkcdalmlaiaa
open Go.RowKit Go.Sort
theorem Box3.set012 {w : World} {b : Nat} {n t n' t' : Int} {v v' : Value} (h : Box3 w b n t v) : Box3 (((w.setCell ⟨b, 0, none⟩ (.int .i64 n')).setCell ⟨b, 1, none⟩ (.int .i64 t')).setCell ⟨b, 2, none⟩ v') b n' t' v' := by
  have c0 := h.c.get 0 _ rfl
  have c1 := h.c.get 1 _ rfl
  have c2 := h.c.get 2 _ rfl
  refine ⟨⟨by simpa using h.c.1, fun i v hv => ?_⟩, fun i => by simpa using h.f i⟩
  match i, hv with
  | 0, hv => simp at hv; subst hv; simp [go_sem, c0]
  | 1, hv => simp at hv; subst hv; simp [go_sem, c1]
  | 2, hv => simp at hv; subst hv; simp [go_sem, c2]

set_option maxRecDepth 100000 in
set_option maxHeartbeats 4000000 in
theorem l09Chain_any (b K : Nat) (w : World) (hs : SrcB w b K) (hK : K ≤ 5000) :
    Calls Try.prog 105 #[.pointer (some ⟨b, 0, none⟩)] w fun e w' => ∃ (n t : Nat) (v : Value) (xss : List (List Int)), e = .returned (.agg #[.int .i64 n, .int .i64 t, v]) ∧ chainOk n t xss = true ∧ OwnII w' w.heap.size v xss ∧ SrcB w' b (K + 2000) ∧ Fs (fun k => k = b) w w' := by
  have hbw := hs.lt
  have hA : Below w.heap.size w (w.alloc (.cells #[.int .i64 0, .int .i64 0, .slice none 0 0] 33)) := (Below.refl _ _).alloc (Nat.le_refl _) _
  have S1 := Lib.hid (hs.below hA)
  have FA := Lib.hid (Fs.of_below (S := fun k => k = b) hA)
  have R1 := Lib.hid (Box3.new w 0 0 (.slice none 0 0))
  obtain ⟨W1, hW1⟩ : ∃ W1, W1 = w.alloc (.cells #[.int .i64 0, .int .i64 0, .slice none 0 0] 33) := ⟨_, rfl⟩
  rw [← hW1] at S1 FA R1
  have Z1 := Lib.hid (show W1.heap.size = w.heap.size + 1 by rw [hW1]; simp)
  have HW1 := Lib.hid hW1
  clear hs hA hW1
  go_enter Try.func105, Try.ntmps105
  go_wp2_with fail
  rw [← HW1.out]
  refine (l01Draw_any b K 4 _ S1.out (by omega) (by decide) (by decide)).mono ?_
  rintro e w1 ⟨n, t, v, xss, rfl, _, hch, o1, s1, g1⟩
  obtain ⟨va, vn, vc, rfl, _⟩ := o1.formJ
  have hA3 : Below w1.heap.size w1 (w1.alloc (.cells #[.int .i64 n, .int .i64 t, .slice va vn vc] 33)) := (Below.refl _ _).alloc (Nat.le_refl _) _
  have HB1 := Lib.hid s1.lt
  have S3 := Lib.hid (s1.below hA3)
  have F3 := Lib.hid ((FA.out.trans g1).trans (Fs.of_below hA3))
  have R3 := Lib.hid ((R1.out.fs g1 (by omega)).fs (S := fun _ => False) (Fs.of_below hA3) (fun h => h))
  have X3 := Lib.hid (Box3.new w1 n t (.slice va vn vc))
  have O3 := Lib.hid ((o1.below hA3).lower (base' := w.heap.size + 1) (by rw [Z1.out]; exact Nat.le_refl _))
  obtain ⟨W3, hW3⟩ : ∃ W3, W3 = w1.alloc (.cells #[.int .i64 n, .int .i64 t, .slice va vn vc] 33) := ⟨_, rfl⟩
  rw [← hW3] at S3 F3 R3 X3 O3
  have HW3 := Lib.hid hW3
  have Z3 := Lib.hid (show W3.heap.size = w1.heap.size + 1 by rw [hW3]; simp)
  have ZR := Lib.hid (show w.heap.size < w1.heap.size from by have := g1.size; have := Z1.out; omega)
  have HCH := Lib.hid hch
  have RZ := Lib.hid (show ∀ W, Fs (fun k => k = b) W3 W → Box3 W w.heap.size 0 0 (.slice none 0 0) from fun W h => R3.out.fs h (by omega))
  clear o1 s1 g1 hA3 S1 FA R1 hW3 hch
  go_wp2_with fail
  rw [← HW3.out]
  refine (one_any b (K + 1000) 3 _ S3.out (by omega)).mono ?_
  rintro e w4 ⟨D, rfl, s4, g4⟩
  have X4 := Lib.hid (X3.out.fs g4 (by have := HB1.out; omega))
  have F4 := Lib.hid (F3.out.trans g4)
  have O4 := Lib.hid (show OwnII w4 (w.heap.size + 1) (.slice va vn vc) xss from by
    have h := O3.out.b
    exact (OwnIIB.fsJ h g4 (fun k hk => by omega)).ii)
  have S4 := Lib.hid s4
  have HG4 := Lib.hid g4
  clear s4
  cases D
  · have R5 := RZ.out _ g4
    have c0 := X4.out.c.get 0 _ rfl
    have c1 := X4.out.c.get 1 _ rfl
    have c2 := X4.out.c.get 2 _ rfl
    have q0 := R5.c.get 0 _ rfl
    have q1 := R5.c.get 1 _ rfl
    have q2 := R5.c.get 2 _ rfl
    have f0 := R5.f 0
    have f1 := R5.f 1
    have f2 := R5.f 2
    have zz := R5.c.1
    clear R5 g4
    go_wp2
    refine bodyPost_ret (v := .agg #[.int .i64 n, .int .i64 t, .slice va vn vc]) (by simp [results, Try.results105, go_sem, c0, c1, c2, q0, q1, q2, zz]) rfl ⟨n, t, _, xss, rfl, HCH.out, ?_, ?_, ?_⟩
    · exact (((O4.out.setCell (by simp) _).setCell (by simp) _).setCell (by simp) _).lower (by omega)
    · exact (S4.out.fs (Fs.set3 _ _ _ _ _) (fun k hk => by omega)).more (by omega)
    · exact (F4.out.then (Fs.set3 w4 w.heap.size (.int .i64 n) (.int .i64 t) (.slice va vn vc)) (R := fun k => k = b ∨ k = w.heap.size) (fun k _ h => .inl h) (fun k _ h => .inr h)).cut (fun k hk h => by omega)
  · skip
    go_wp2_with fail
    refine (l02Even_any b (K + 1000 + 2) _ S4.out (by omega)).mono ?_
    rintro e w5 ⟨n', t', v', xss', rfl, _, hch', o5, s5, g5⟩
    obtain ⟨va', vn', vc', rfl, _⟩ := o5.formJ
    have x5 := X4.out.fs g5 (by have := HB1.out; omega)
    have e0 := x5.c.get 0 _ rfl
    have e1 := x5.c.get 1 _ rfl
    have e2 := x5.c.get 2 _ rfl
    have h0 := x5.f 0
    have h1 := x5.f 1
    have h2 := x5.f 2
    have x6 := x5.set012 (n' := n') (t' := t') (v' := .slice va' vn' vc')
    have c0 := x6.c.get 0 _ rfl
    have c1 := x6.c.get 1 _ rfl
    have c2 := x6.c.get 2 _ rfl
    have R5 := (RZ.out _ (HG4.out.trans g5)).fs (Fs.set3 w5 w1.heap.size (.int .i64 n') (.int .i64 t') (.slice va' vn' vc')) (by have := ZR.out; omega)
    have q0 := R5.c.get 0 _ rfl
    have q1 := R5.c.get 1 _ rfl
    have q2 := R5.c.get 2 _ rfl
    have f0 := R5.f 0
    have f1 := R5.f 1
    have f2 := R5.f 2
    have zz := R5.c.1
    have hz4 : w1.heap.size < w4.heap.size := X4.out.c.1
    have O5 := Lib.hid (show OwnII w5 (w1.heap.size + 1) (.slice va' vn' vc') xss' from o5.lower (by omega))
    have S5 := Lib.hid s5
    have F5 := Lib.hid ((F4.out.trans g5).then (Fs.set3 w5 w1.heap.size (.int .i64 n') (.int .i64 t') (.slice va' vn' vc')) (R := fun k => k = b ∨ k = w1.heap.size) (fun k _ h => .inl h) (fun k _ h => .inr h))
    have HCH' := Lib.hid hch'
    clear R5 g4 g5 x5 x6 o5 s5 hch'
    go_wp2
    refine bodyPost_ret (v := .agg #[.int .i64 n', .int .i64 t', .slice va' vn' vc']) (by simp [results, Try.results105, go_sem, c0, c1, c2, q0, q1, q2, zz]) rfl ⟨n', t', _, xss', rfl, HCH'.out, ?_, ?_, ?_⟩
    · exact ((((((O5.out.setCell (by simp) _).setCell (by simp) _).setCell (by simp) _).setCell (by have := ZR.out; simp; omega) _).setCell (by have := ZR.out; simp; omega) _).setCell (by have := ZR.out; simp; omega) _).lower (by have := ZR.out; omega)
    · exact (((S5.out.fs (Fs.set3 _ _ _ _ _) (fun k hk => by have := HB1.out; omega)).fs (Fs.set3 _ _ _ _ _) (fun k hk => by omega))).more (by omega)
    · exact (F5.out.then (Fs.set3 _ w.heap.size (.int .i64 n') (.int .i64 t') (.slice va' vn' vc')) (R := fun k => k = b ∨ k = w1.heap.size ∨ k = w.heap.size) (fun k _ h => h.elim .inl (fun h => .inr (.inl h))) (fun k _ h => .inr (.inr h))).cut (fun k hk h => by have := ZR.out; omega)
structure BoxN (w : World) (b : Nat) (vs : List Value) : Prop where
  c : CellsAt w b vs
  f : ∀ i, w.frozen? ⟨b, i, none⟩ = false
theorem BoxN.fs {S : Nat → Prop} {w w' : World} {b : Nat} {vs : List Value} (h : BoxN w b vs) (hf : Fs S w w') (hS : ¬ S b) : BoxN w' b vs :=
  ⟨h.c.fs hf hS, fun i => by rw [hf.frozen (p := ⟨b, i, none⟩) h.c.1 hS]; exact h.f i⟩
theorem BoxN.newV (w : World) (s t : Int) (v : Value) (bs sm wk : Int) : BoxN (w.alloc (.cells #[.int .i64 s, .int .i64 t, v, .int .i64 bs, .int .i64 sm, .int .i64 wk] 35)) w.heap.size [.int .i64 s, .int .i64 t, v, .int .i64 bs, .int .i64 sm, .int .i64 wk] :=
  ⟨CellsAt.new w [.int .i64 s, .int .i64 t, v, .int .i64 bs, .int .i64 sm, .int .i64 wk] 35, fun i => by simp [go_sem]⟩
def set6 (w : World) (r : Nat) (s t : Int) (v : Value) (bs sm wk : Int) : World := (((((w.setCell ⟨r, 0, none⟩ (.int .i64 s)).setCell ⟨r, 1, none⟩ (.int .i64 t)).setCell ⟨r, 2, none⟩ v).setCell ⟨r, 3, none⟩ (.int .i64 bs)).setCell ⟨r, 4, none⟩ (.int .i64 sm)).setCell ⟨r, 5, none⟩ (.int .i64 wk)
theorem Fs.set6 (w : World) (r : Nat) (s t : Int) (v : Value) (bs sm wk : Int) : Fs (fun k => k = r) w (set6 w r s t v bs sm wk) :=
  Fs.set (S := fun k => k = r) (Fs.set (S := fun k => k = r) (Fs.set (S := fun k => k = r) (Fs.set3 w r _ _ _) (a := ⟨r, 3, none⟩) rfl _) (a := ⟨r, 4, none⟩) rfl _) (a := ⟨r, 5, none⟩) rfl _
theorem OwnII.set6 {w : World} {base : Nat} {v : Value} {xss : List (List Int)} (h : OwnII w base v xss) {r : Nat} (hr : r < base) (s t : Int) (u : Value) (bs sm wk : Int) : OwnII (set6 w r s t u bs sm wk) base v xss :=
  (((((h.setCell (a := ⟨r, 0, none⟩) hr _).setCell (a := ⟨r, 1, none⟩) hr _).setCell (a := ⟨r, 2, none⟩) hr _).setCell (a := ⟨r, 3, none⟩) hr _).setCell (a := ⟨r, 4, none⟩) hr _).setCell (a := ⟨r, 5, none⟩) hr _

set_option maxRecDepth 100000 in
set_option maxHeartbeats 4000000 in
theorem l09Drawn_any (b K : Nat) (w : World) (hs : SrcB w b K) (hK : K ≤ 2000) :
    Calls Try.prog 67 #[.pointer (some ⟨b, 0, none⟩)] w fun e w' => ∃ (n t bs sm wk : Nat) (v : Value) (xss : List (List Int)), e = .returned (.agg #[.int .i64 n, .int .i64 t, v, .int .i64 bs, .int .i64 sm, .int .i64 wk]) ∧ chainOk n t xss = true ∧ bs ≤ 2000 ∧ (1 ≤ sm ∧ sm ≤ 4) ∧ (1 ≤ wk ∧ wk ≤ 3) ∧ OwnII w' w.heap.size v xss ∧ SrcB w' b (K + 2006) ∧ Fs (fun k => k = b) w w' := by
  have hbw := hs.lt
  have hA : Below w.heap.size w (w.alloc (.cells #[.int .i64 0, .int .i64 0, .slice none 0 0, .int .i64 0, .int .i64 0, .int .i64 0] 35)) := (Below.refl _ _).alloc (Nat.le_refl _) _
  have S1 := Lib.hid (hs.below hA)
  have FA := Lib.hid (Fs.of_below (S := fun k => k = b) hA)
  have R1 := Lib.hid (BoxN.newV w 0 0 (.slice none 0 0) 0 0 0)
  obtain ⟨W1, hW1⟩ : ∃ W1, W1 = w.alloc (.cells #[.int .i64 0, .int .i64 0, .slice none 0 0, .int .i64 0, .int .i64 0, .int .i64 0] 35) := ⟨_, rfl⟩
  rw [← hW1] at S1 FA R1
  have Z1 := Lib.hid (show W1.heap.size = w.heap.size + 1 by rw [hW1]; simp)
  have HW1 := Lib.hid hW1
  clear hs hA hW1
  go_enter Try.func67, Try.ntmps67
  go_wp2_with fail
  rw [← HW1.out]
  refine (l09Chain_any b K _ S1.out (by omega)).mono ?_
  rintro e w1 ⟨n, t, v, xss, rfl, hch, o1, s1, g1⟩
  obtain ⟨va, vn, vc, rfl, _⟩ := o1.formJ
  have HCH := Lib.hid hch
  have O1 := Lib.hid o1
  have G1 := Lib.hid g1
  have S2 := Lib.hid s1
  clear o1 s1 g1 hch
  go_wp2_with fail
  refine (pick_any b (K + 2000) 2000 _ S2.out (by omega)).mono ?_
  rintro e w2 ⟨y, rfl, hy0, hy1, s2, g2⟩
  obtain ⟨bs, rfl⟩ := Int.eq_ofNat_of_zero_le hy0
  have hbs : bs ≤ 2000 := by omega
  clear hy0 hy1
  go_wp2_with fail
  refine (pick_any b (K + 2000 + 2) 4 _ s2 (by omega)).mono ?_
  rintro e w3 ⟨y, rfl, hy0, hy1, s3, g3⟩
  obtain ⟨y, rfl⟩ := Int.eq_ofNat_of_zero_le hy0
  obtain ⟨sm, hsm⟩ : ∃ sm, sm = y + 1 := ⟨_, rfl⟩
  have hsm1 : 1 ≤ sm := by omega
  have hsm2 : sm ≤ 4 := by omega
  have r1 : IntKind.i64.wrap (1 + (y : Int)) = (sm : Int) := by rw [IntWalk.i64_in _ (by omega)]; omega
  clear hy0 hy1 hsm
  go_wp2_with fail
  refine (pick_any b (K + 2000 + 2 + 2) 3 _ s3 (by omega)).mono ?_
  rintro e w4 ⟨y, rfl, hy0, hy1, s4, g4⟩
  obtain ⟨y, rfl⟩ := Int.eq_ofNat_of_zero_le hy0
  obtain ⟨wk, hwk⟩ : ∃ wk, wk = y + 1 := ⟨_, rfl⟩
  have hwk1 : 1 ≤ wk := by omega
  have hwk2 : wk ≤ 3 := by omega
  have r2 : IntKind.i64.wrap (1 + (y : Int)) = (wk : Int) := by rw [IntWalk.i64_in _ (by omega)]; omega
  have G4 := Lib.hid ((G1.out.trans g2).trans (g3.trans g4))
  have FW := Lib.hid (FA.out.trans G4.out)
  have O4 := Lib.hid (show OwnII w4 (w.heap.size + 1) (.slice va vn vc) xss from by
    have hz := G1.out.size
    have h := (OwnIIB.fsJ O1.out.b (g2.trans (g3.trans g4)) (fun k hk => by have := Z1.out; omega)).ii
    rw [Z1.out] at h
    exact h)
  have S4 := Lib.hid s4
  have R4 := R1.out.fs G4.out (by omega)
  have q0 := R4.c.get 0 _ rfl
  have q1 := R4.c.get 1 _ rfl
  have q2 := R4.c.get 2 _ rfl
  have q3 := R4.c.get 3 _ rfl
  have q4 := R4.c.get 4 _ rfl
  have q5 := R4.c.get 5 _ rfl
  have f0 := R4.f 0
  have f1 := R4.f 1
  have f2 := R4.f 2
  have f3 := R4.f 3
  have f4 := R4.f 4
  have f5 := R4.f 5
  have zz := R4.c.1
  clear hy0 hy1 hwk s2 s3 s4 g2 g3 g4 R4
  go_wp2
  refine bodyPost_ret (v := .agg #[.int .i64 n, .int .i64 t, .slice va vn vc, .int .i64 bs, .int .i64 sm, .int .i64 wk]) (by simp [results, Try.results67, go_sem, q0, q1, q2, q3, q4, q5, zz]) rfl ⟨n, t, bs, sm, wk, _, xss, rfl, HCH.out, hbs, ⟨hsm1, hsm2⟩, ⟨hwk1, hwk2⟩, ?_, ?_, ?_⟩
  · exact (O4.out.set6 (r := w.heap.size) (by omega) n t (.slice va vn vc) bs sm wk).lower (by omega)
  · exact (S4.out.fs (Fs.set6 w4 w.heap.size n t (.slice va vn vc) bs sm wk) (fun k hk => by omega)).more (by omega)
  · exact (FW.out.then (Fs.set6 w4 w.heap.size n t (.slice va vn vc) bs sm wk) (R := fun k => k = b ∨ k = w.heap.size) (fun k _ h => .inl h) (fun k _ h => .inr h)).cut (fun k hk h => by omega)

set_option maxRecDepth 100000 in
set_option maxHeartbeats 1000000 in
theorem A2Service_any {xs : List Int} (ad : Option Addr) (n c : Nat) (w : World) (hn : n ≤ 4096) (hx : xs.length = n) (hr : Rd w ad (xs.map (.int .u8))) (hb : ∀ x ∈ xs, 0 ≤ x ∧ x < 256) :
    Calls Try.prog 28 #[.slice ad n c] w fun e w' => ∃ (m t bs sm wk : Nat) (v : Value) (xss : List (List Int)), e = .returned (.agg #[.int .i64 m, .int .i64 t, v, .int .i64 bs, .int .i64 sm, .int .i64 wk]) ∧ chainOk m t xss = true ∧ bs ≤ 2000 ∧ (1 ≤ sm ∧ sm ≤ 4) ∧ (1 ≤ wk ∧ wk ≤ 3) ∧ OwnII w' w.heap.size v xss ∧ Below w.heap.size w w' := by
  have hA : Below w.heap.size w (w.alloc (.cells #[.int .i64 0, .int .i64 0, .slice none 0 0, .int .i64 0, .int .i64 0, .int .i64 0] 35)) := (Below.refl _ _).alloc (Nat.le_refl _) _
  have HR := Lib.hid (hr.below hA)
  have R1 := Lib.hid (BoxN.newV w 0 0 (.slice none 0 0) 0 0 0)
  have HB := Lib.hid hb
  have HX := Lib.hid hx
  have HA := Lib.hid hA
  obtain ⟨W1, hW1⟩ : ∃ W1, W1 = w.alloc (.cells #[.int .i64 0, .int .i64 0, .slice none 0 0, .int .i64 0, .int .i64 0, .int .i64 0] 35) := ⟨_, rfl⟩
  rw [← hW1] at HR R1 HA
  have HW1 := Lib.hid hW1
  have Z1 := Lib.hid (show W1.heap.size = w.heap.size + 1 by rw [hW1]; simp)
  clear hr hb hx hA hW1
  go_enter Try.func28, Try.ntmps28
  go_wp2_with fail
  rw [← HW1.out]
  refine (l00From_any ad n c _ hn HX.out HR.out HB.out).mono ?_
  rintro e w1 ⟨rfl, s1, b1⟩
  have hz1 := s1.lt
  go_wp2_with fail
  refine (l09Drawn_any W1.heap.size 0 _ s1 (by omega)).mono ?_
  rintro e w2 ⟨m, t, bs, sm, wk, v, xss, rfl, hch, hbs, hsm, hwk, o2, _, f2⟩
  have zw := Z1.out
  have b2 := b1.trans (f2.below (B := W1.heap.size) b1.size (fun k hk => by omega))
  have R2 := R1.out.fs (S := fun _ => False) (Fs.of_below b2) (fun h => h)
  have q0 := R2.c.get 0 _ rfl
  have q1 := R2.c.get 1 _ rfl
  have q2 := R2.c.get 2 _ rfl
  have q3 := R2.c.get 3 _ rfl
  have q4 := R2.c.get 4 _ rfl
  have q5 := R2.c.get 5 _ rfl
  have f0 := R2.f 0
  have f1 := R2.f 1
  have f2' := R2.f 2
  have f3 := R2.f 3
  have f4 := R2.f 4
  have f5 := R2.f 5
  have zz := R2.c.1
  obtain ⟨va, vn, vc, rfl, _⟩ := o2.formJ
  have O2 := Lib.hid (o2.lower (base' := w.heap.size + 1) (by omega))
  have B2 := Lib.hid (HA.out.trans (b2.mono HA.out.size))
  clear R2 o2 f2 b1 b2 s1
  go_wp2
  refine bodyPost_ret (v := .agg #[.int .i64 m, .int .i64 t, .slice va vn vc, .int .i64 bs, .int .i64 sm, .int .i64 wk]) (by simp [results, Try.results28, go_sem, q0, q1, q2, q3, q4, q5, zz]) rfl ⟨m, t, bs, sm, wk, _, xss, rfl, hch, hbs, hsm, hwk, ?_, ?_⟩
  · exact (O2.out.set6 (r := w.heap.size) (by omega) m t (.slice va vn vc) bs sm wk).lower (by omega)
  · exact B2.out.trans ((Fs.set6 w2 w.heap.size m t (.slice va vn vc) bs sm wk).below (by have := B2.out.size; omega) (fun k hk => by omega))
end Go.Proofs.Ytijpkcdalmlaiaa
namespace Go.Proofs.Ytijpkcdalmlaiaa
open Go.RowKit Go.Sort
theorem ServAt.fs {S : Nat → Prop} {w w' : World} {b o : Nat} {s t : Int} {v : Value} {bs sm wk : Int} (h : ServAt w b o s t v bs sm wk) (hf : Fs S w w') (hS : ¬ S b) : ServAt w' b o s t v bs sm wk := by
  obtain ⟨⟨h0, h1, h2, h3⟩, h4, h5, h6⟩ := h
  exact ⟨⟨Nat.lt_of_lt_of_le h0 hf.size, by rw [hf.cell (p := ⟨b, o, none⟩) h0 hS]; exact h1, by rw [hf.cell (p := ⟨b, o + 1, none⟩) h0 hS]; exact h2, by rw [hf.cell (p := ⟨b, o + 2, none⟩) h0 hS]; exact h3⟩, by rw [hf.cell (p := ⟨b, o + 3, none⟩) h0 hS]; exact h4, by rw [hf.cell (p := ⟨b, o + 4, none⟩) h0 hS]; exact h5, by rw [hf.cell (p := ⟨b, o + 5, none⟩) h0 hS]; exact h6⟩
theorem BoxN.newR (w : World) (k s v : Int) : BoxN (w.alloc (.cells #[.int .i64 k, .int .i64 s, .int .i64 v] 121)) w.heap.size [.int .i64 k, .int .i64 s, .int .i64 v] :=
  ⟨CellsAt.new w [.int .i64 k, .int .i64 s, .int .i64 v] 121, fun i => by simp [go_sem]⟩
theorem BoxN.setR {w : World} {b : Nat} {k s v : Int} (h : BoxN w b [.int .i64 k, .int .i64 s, .int .i64 v]) :
    (∀ x : Int, BoxN (w.setCell ⟨b, 0, none⟩ (.int .i64 x)) b [.int .i64 x, .int .i64 s, .int .i64 v]) ∧ (∀ x : Int, BoxN (w.setCell ⟨b, 1, none⟩ (.int .i64 x)) b [.int .i64 k, .int .i64 x, .int .i64 v]) ∧ (∀ x : Int, BoxN (w.setCell ⟨b, 2, none⟩ (.int .i64 x)) b [.int .i64 k, .int .i64 s, .int .i64 x]) := by
  have c0 := h.c.get 0 _ rfl
  have c1 := h.c.get 1 _ rfl
  have c2 := h.c.get 2 _ rfl
  refine ⟨fun x => ?_, fun x => ?_, fun x => ?_⟩ <;> (refine ⟨⟨by simpa using h.c.1, fun i v hv => ?_⟩, fun i => by simpa using h.f i⟩; match i, hv with
    | 0, hv => simp at hv; subst hv; simp [go_sem, c0]
    | 1, hv => simp at hv; subst hv; simp [go_sem, c1]
    | 2, hv => simp at hv; subst hv; simp [go_sem, c2])
-- ANYRECORD
def RecSt (W1 : World) (b rb K : Nat) (wc : World) : Prop := ∃ k s x : Int, BoxN wc rb [.int .i64 k, .int .i64 s, .int .i64 x] ∧ SrcB wc b K ∧ Fs (fun k => k = b) W1 wc
theorem RecSt.src {W1 wc : World} {b rb K : Nat} (h : RecSt W1 b rb K wc) : SrcB wc b K := by obtain ⟨_, _, _, _, h, _⟩ := h; exact h
theorem RecSt.fr {W1 wc : World} {b rb K : Nat} (h : RecSt W1 b rb K wc) : Fs (fun k => k = b) W1 wc := by obtain ⟨_, _, _, _, _, h⟩ := h; exact h
theorem RecSt.pick {W1 wc w' : World} {b rb K K' : Nat} (h : RecSt W1 b rb K wc) (hne : ¬ rb = b) (hs : SrcB w' b K') (hf : Fs (fun k => k = b) wc w') : RecSt W1 b rb K' w' := by
  obtain ⟨k, s, x, bx, _, f⟩ := h
  exact ⟨k, s, x, bx.fs hf hne, hs, f.trans hf⟩
theorem RecSt.more {W1 wc : World} {b rb K K' : Nat} (h : RecSt W1 b rb K wc) (hK : K ≤ K') : RecSt W1 b rb K' wc := by
  obtain ⟨k, s, x, bx, hs, f⟩ := h
  exact ⟨k, s, x, bx, hs.more hK, f⟩
theorem RecSt.set {W1 wc : World} {b rb K : Nat} (h : RecSt W1 b rb K wc) (hrb : W1.heap.size ≤ rb) (hb : b < W1.heap.size) (i : Nat) (hi : i = 0 ∨ i = 1 ∨ i = 2) (z : Int) : RecSt W1 b rb K (wc.setCell ⟨rb, i, none⟩ (.int .i64 z)) := by
  obtain ⟨k, s, x, bx, hs, f⟩ := h
  have h1 := hs.fs (Fs.set1 wc rb i (.int .i64 z)) (fun k hk => by omega)
  have h2 : Fs (fun k => k = b) W1 (wc.setCell ⟨rb, i, none⟩ (.int .i64 z)) := (f.then (Fs.set1 wc rb i (.int .i64 z)) (R := fun k => k = b ∨ k = rb) (fun k _ h => .inl h) (fun k _ h => .inr h)).cut (fun k hk h => by omega)
  rcases hi with rfl | rfl | rfl
  · exact ⟨_, _, _, bx.setR.1 z, h1, h2⟩
  · exact ⟨_, _, _, bx.setR.2.1 z, h1, h2⟩
  · exact ⟨_, _, _, bx.setR.2.2 z, h1, h2⟩
theorem RecSt.new {W1 w3 : World} {b K : Nat} (s3 : SrcB w3 b K) (f3 : Fs (fun k => k = b) W1 w3) (k s x : Int) : RecSt W1 b w3.heap.size K (w3.alloc (.cells #[.int .i64 k, .int .i64 s, .int .i64 x] 121)) := by
  have hA : Below w3.heap.size w3 (w3.alloc (.cells #[.int .i64 k, .int .i64 s, .int .i64 x] 121)) := (Below.refl _ _).alloc (Nat.le_refl _) _
  exact ⟨k, s, x, BoxN.newR w3 k s x, s3.below hA, f3.trans (Fs.of_below hA)⟩
theorem RecSt.st3 {W1 w3 : World} {b rb K : Nat} {k s x : Int} (bx : BoxN w3 rb [.int .i64 k, .int .i64 s, .int .i64 x]) (s3 : SrcB w3 b K) (f3 : Fs (fun k => k = b) W1 w3) (hrb : W1.heap.size ≤ rb) (hb : b < W1.heap.size) (k' s' x' : Int) :
    RecSt W1 b rb K (((w3.setCell ⟨rb, 0, none⟩ (.int .i64 k')).setCell ⟨rb, 1, none⟩ (.int .i64 s')).setCell ⟨rb, 2, none⟩ (.int .i64 x')) :=
  (((show RecSt W1 b rb K w3 from ⟨k, s, x, bx, s3, f3⟩).set hrb hb 0 (.inl rfl) k').set hrb hb 1 (.inr (.inl rfl)) s').set hrb hb 2 (.inr (.inr rfl)) x'
end Go.Proofs.Ytijpkcdalmlaiaa
namespace Go.Proofs.Ytijpkcdalmlaiaa
open Go.RowKit Go.Sort
def a2L (n0 n1 : Nat) : Bool := decide (3000 < n0 ∨ 3000 < n1)

theorem a2Long_any (a0 a1 : Option Addr) (n0 n1 c0 c1 : Nat) (w : World) (h0 : n0 ≤ maxLen) (h1 : n1 ≤ maxLen) :
    Calls Try.prog 27 #[.slice a0 n0 c0, .slice a1 n1 c1] w fun e w' => e = .returned (.bool (a2L n0 n1)) ∧ w = w' := by
  unfold maxLen at h0 h1
  by_cases h : 3000 < n0
  · have i0 : (3000 : Int) < (n0 : Int) := by omega
    have d0 : decide ((3000 : Int) < (n0 : Int)) = true := by simp [i0]
    have HD := Lib.hid (show a2L n0 n1 = true by simp [a2L, h])
    go_enter Try.func27, Try.ntmps27
    go_wp2
    go_ret
    exact ⟨rb (by rw [HD.out] <;> (first | rfl | (simp; done) | (simp; omega))), rfl⟩
  · have i0 : ¬ (3000 : Int) < (n0 : Int) := by omega
    have d0 : decide ((3000 : Int) < (n0 : Int)) = false := by simp; omega
    by_cases h2 : 3000 < n1
    · have i1 : (3000 : Int) < (n1 : Int) := by omega
      have d1 : decide ((3000 : Int) < (n1 : Int)) = true := by simp [i1]
      have HD := Lib.hid (show a2L n0 n1 = true by simp [a2L, h2])
      go_enter Try.func27, Try.ntmps27
      go_wp2
      go_ret
      exact ⟨rb (by rw [HD.out] <;> (first | rfl | (simp; done) | (simp; omega))), rfl⟩
    · have i1 : ¬ (3000 : Int) < (n1 : Int) := by omega
      have d1 : decide ((3000 : Int) < (n1 : Int)) = false := by simp; omega
      have HD := Lib.hid (show a2L n0 n1 = false by simp [a2L, h, h2])
      go_enter Try.func27, Try.ntmps27
      go_wp2
      go_ret
      exact ⟨rb (by rw [HD.out] <;> (first | rfl | (simp; done) | (simp; omega))), rfl⟩

theorem a2At_any {xs : List Int} (ad : Option Addr) (n c k : Nat) (m : Nat) {kI mI : Int} (w : World) (hkI : kI = (k : Int)) (hmI : mI = (m : Int)) (hn : n ≤ maxLen) (hx : xs.length = n) (hr : Rd w ad (xs.map (.int .u8))) (hb : ∀ x ∈ xs, 0 ≤ x ∧ x < 256) (hk : k ≤ 1000) (hm : 1 ≤ m) (hm2 : m ≤ 1000000) :
    Calls Try.prog 37 #[.slice ad n c, .int .i64 kI, .int .i64 mI] w fun e w' => ∃ y : Nat, e = .returned (.int .i64 y) ∧ y < m ∧ w = w' := by
  subst hkI hmI
  unfold maxLen at hn
  by_cases h : n ≤ k
  · have i0 : (n : Int) ≤ (k : Int) := by omega
    go_enter Try.func37, Try.ntmps37
    go_wp2
    go_ret
    exact ⟨0, rfl, by omega, rfl⟩
  · have i0 : ¬ (n : Int) ≤ (k : Int) := by omega
    have i1 : (k : Int) < (n : Int) := by omega
    have i2 : (0 : Int) ≤ (k : Int) := by omega
    have hkl : k < xs.length := by omega
    have hk2 : (xs.map (.int .u8))[k]? = some (Value.int .u8 xs[k]) := by simp [hkl]
    obtain ⟨b, off, rfl, gk⟩ := hr.one hk2
    have hbk := hb _ (List.getElem_mem hkl)
    generalize xs[k] = x at gk hbk
    obtain ⟨x, rfl⟩ := Int.eq_ofNat_of_zero_le hbk.1
    have hx2 : x < 256 := by omega
    have hxm : x % m < m := Nat.mod_lt _ hm
    have i3 : ¬ (m : Int) < 1 := by omega
    have hm0 : (m : Int) ≠ 0 := by omega
    have hm1 : ¬ (m : Int) = 0 := by omega
    have hm2' : ((m : Int) == 0) = false := by rw [beq_eq_false_iff_ne]; omega
    clear hr hb hbk hx hk2
    go_enter Try.func37, Try.ntmps37
    go_wp2
    go_ret
    exact ⟨x % m, ri (by first | (simp; done) | (rw [Int.tmod_eq_emod_of_nonneg (by omega)]; simp)), hxm, rfl⟩
end Go.Proofs.Ytijpkcdalmlaiaa
