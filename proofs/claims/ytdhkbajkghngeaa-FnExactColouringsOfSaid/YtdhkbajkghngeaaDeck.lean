/-
  Decks: all orders of few cards, as the reference lists them; the place of a deck among them.
-/
import Derived.Test.YtdhkbajkghngeaaBaseII
import Derived.Test.YtdhkbajkghngeaaFlat
namespace Go.Proofs.Ytdhkbajkghngeaa
open Go.RowKit

/-- append(v, u) on owned rows, u a row that has been made since -/
theorem append_row {ops : Array Oper} {rest : List Oper} {o : Oper} {a : Act} {Q : Exit → Act → World → Prop} (w0 w : World) (s x : Operand) (hg : o.guard = none)
    (ho : o.op = .call { callee := .builtin .append, args := #[s, x], argTypes := #[22, 22] })
    {base : Nat} {v u : Value} {xss : List (List Int)} {xs : List Int} (hs : a.eval s = v) (hown : OwnII w0 base v xss) (hb : Below w0.heap.size w0 w) (hu : OwnI w w0.heap.size u xs) {t : Nat} (hx : a.eval x = .slice (some ⟨w.heap.size, 0, none⟩) 1 1)
    (hlen : xss.length < 16777216) (hbase : base ≤ w0.heap.size)
    (h : ∀ v' w', OwnII w' base v' (xss ++ [xs]) → Below base (w.alloc (.cells #[u] t)) w' → w.heap.size < w'.heap.size → wpList Try.prog ops Q rest (a.put o.dst v') w') : wpList Try.prog ops Q (o :: rest) a (w.alloc (.cells #[u] t)) := by
  obtain ⟨vs, h1, h2⟩ := hown
  have hlt := h2.lt
  have h1' := ownsRow_below h1 hb
  have h2' := h2.below hb
  have hu1 : u.oneCell' = true := by
    rcases hu.2 with ⟨rfl, _⟩ | ⟨g, c, cur, rfl, _⟩ <;> rfl
  refine append_one tI64S w u hu1 s x hg ho hs h1' hx hlen (Nat.le_trans hbase hb.size) (fun v' w' k1 k2 k3 k4 => ?_)
  refine h v' w' ⟨vs ++ [u], ?_, ?_⟩ k3 k4
  · rw [List.length_append]; exact k1
  · have hsn : Rows2 w base (vs ++ [u]) (xss ++ [xs]) := Rows2.snoc (B := w0.heap.size) h2' (hu.lower hbase) (fun i v g hv hg => (hlt i v g hv hg).2) (fun g hg => (hu.lt g hg).1)
    exact (hsn.below ((Below.refl _ _).alloc (Nat.le_refl _) _)).kept (h1'.alloc (.cells #[u] t)) k2

/-- the next longer decks of one -/
def extD (c : Nat) (d : List Int) : List (List Int) := ((upTo' c).filter (fun x => !decide (x ∈ d))).map (fun x => d ++ [x])
where upTo' (n : Nat) : List Int := (List.range n).map fun (i : Nat) => (i : Int)
def extN (c : Nat) (d : List Int) (x : Nat) : List (List Int) := ((extD.upTo' x).filter (fun x => !decide (x ∈ d))).map (fun x => d ++ [x])
def decksL (c : Nat) : Nat → List (List Int)
  | 0 => [[]]
  | k + 1 => (decksL c k).flatMap (extD c)
theorem extN_full (c : Nat) (d : List Int) : extN c d c = extD c d := rfl
theorem extN_zero (c : Nat) (d : List Int) : extN c d 0 = [] := rfl
theorem extN_no {c x : Nat} {d : List Int} (h : (x : Int) ∈ d) : extN c d (x + 1) = extN c d x := by
  simp [extN, extD.upTo', List.range_succ, List.filter_append, h]
theorem extN_yes {c x : Nat} {d : List Int} (h : ¬ (x : Int) ∈ d) : extN c d (x + 1) = extN c d x ++ [d ++ [(x : Int)]] := by
  simp [extN, extD.upTo', List.range_succ, List.filter_append, h]
theorem extN_length (c x : Nat) (d : List Int) : (extN c d x).length ≤ x := by
  unfold extN
  rw [List.length_map]
  refine Nat.le_trans (List.length_filter_le _ _) ?_
  simp [extD.upTo']
theorem decks_small {c k : Nat} (hc1 : 1 ≤ c) (hc : c ≤ 3) (hk : k ≤ c) : (decksL c k).length ≤ 6 ∧ ∀ d ∈ decksL c k, d.length = k := by
  have h : ∀ c, c ≤ 3 → ∀ k, k ≤ c → 1 ≤ c → ((decksL c k).length ≤ 6 ∧ ∀ d ∈ decksL c k, d.length = k) := by decide
  exact h c hc k hk hc1
theorem flat_take (l : List (List Int)) (f : List Int → List (List Int)) {i : Nat} (h : i < l.length) : (l.take (i + 1)).flatMap f = (l.take i).flatMap f ++ f l[i] := by
  rw [List.take_succ_eq_append_getElem h, List.flatMap_append]; simp
theorem flat_take_le (l : List (List Int)) (f : List Int → List (List Int)) (i : Nat) : ((l.take i).flatMap f).length ≤ (l.flatMap f).length := by
  conv => rhs; rw [← List.take_append_drop i l]
  rw [List.flatMap_append, List.length_append]; omega

set_option maxHeartbeats 400000 in
theorem l00Has_any {u : Value} {xs : List Int} (x : Int) (w : World) (ha : SlI w u xs) :
    Calls Try.prog 170 #[u, .int .i64 x] w fun e w' => e = .returned (.bool (decide (x ∈ xs))) ∧ w = w' := by
  obtain ⟨a, ca, rfl, hca, hca', ha⟩ := ha
  unfold maxLen at hca'
  go_enter Try.func170, Try.ntmps170
  go_wp2
  go_loopw [5] (fun i wr => ∃ k : Nat, k ≤ xs.length ∧ i = .int .i64 k ∧ Hid (¬ x ∈ xs.take k) ∧ wr = w) (fun i _ => xs.length - (intOf i).toNat)
  case atStart => exact ⟨0, Nat.zero_le _, rfl, by simp [Hid], rfl⟩
  case round =>
    obtain ⟨k, hk, rfl, hno, rfl⟩ := hrel
    by_cases hlt : k < xs.length
    · obtain ⟨b, off, rfl, gc⟩ := ha.one (i64s_get hlt)
      have i1 : (k : Int) < (xs.length : Int) := by omega
      by_cases he : xs[k] = x
      · have HE := Lib.hid he
        have ht : (xs[k] == x) = true := by simp [he]
        clear he
        go_wp2
        go_ret
        exact ⟨rb (by symm; simp; rw [← HE.out]; exact List.getElem_mem hlt), rfl⟩
      · have HE := Lib.hid he
        have ht : (xs[k] == x) = false := by simp [he]
        clear he
        go_wp2
        go_roundw
        case rel => exact ⟨k + 1, by omega, by go_num, by
          unfold Hid at *
          rw [List.take_succ_eq_append_getElem hlt, List.mem_append]
          rintro (h | h)
          · exact hno h
          · simp at h; exact HE h.symm, trivial⟩
        case measure => simp [intOf]; omega
    · go_wp2
      go_ret
      exact ⟨rb (by symm; simp; have := hno.out; rw [List.take_of_length_le (by omega)] at this; exact this), rfl⟩

set_option maxHeartbeats 400000 in
theorem l00Own_any {u : Value} {xs : List Int} (w : World) (ha : SlI w u xs) (hl : xs.length ≤ 1048576) :
    Calls Try.prog 86 #[u] w fun e w' => ∃ v, e = .returned v ∧ OwnI w' w.heap.size v xs ∧ Below w.heap.size w w' := by
  have bx : Below w.heap.size w (w.alloc (.cells #[] 2)) := (Below.refl _ _).alloc (Nat.le_refl _) _
  have hb := ha.below bx
  have hown := OwnI.empty w (base := w.heap.size) (Nat.le_refl _)
  obtain ⟨a, ca, rfl, _⟩ := id ha
  clear ha
  go_enter Try.func86, Try.ntmps86
  go_wp2_with (at_builtin; refine append_SlI _ _ _ rfl rfl rfl hown rfl hb (by simp; omega) (by simp) ?_)
  intro v' w1 hown1 hg1 hb1
  go_wp2
  go_ret
  exact ⟨_, rfl, hown1, bx.trans hb1⟩

theorem OwnII.one (w : World) {base : Nat} {u : Value} {xs : List Int} (hu : OwnI w base u xs) (hb : base ≤ w.heap.size) :
    OwnII (w.alloc (.cells #[u] 25)) base (.slice (some ⟨w.heap.size, 0, none⟩) 1 1) [xs] := by
  have hu1 : u.oneCell' = true := by rcases hu.2 with ⟨rfl, _⟩ | ⟨g, c, cur, rfl, _⟩ <;> rfl
  refine ⟨[u], World.ownsRow_lit (base := base) (e := 25) (size := 1) w #[u] 1 hb (by simp [maxLen]) (by simp), rfl, ?_, ?_⟩
  · intro i u' xs' h1 h2
    cases i with
    | zero => simp at h1 h2; subst h1 h2; exact hu.below ((Below.refl _ _).alloc (Nat.le_refl _) _)
    | succ i => simp at h1
  · intro i j u' v' g hij h1 h2
    cases i with
    | zero => cases j with
      | zero => exact absurd rfl hij
      | succ j => simp at h2
    | succ i => simp at h1

theorem OwnI.empty' (w : World) {base : Nat} (hb : base ≤ w.heap.size) : OwnI (w.alloc (.cells #[] 2)) base (.slice (some ⟨w.heap.size, 0, none⟩) 0 0) [] := OwnI.empty w hb

set_option maxHeartbeats 4000000 in
theorem l07Decks_any (c : Nat) (w : World) (h1 : 1 ≤ c) (h3 : c ≤ 3) :
    Calls Try.prog 122 #[.int .i64 c] w fun e w' => ∃ v, e = .returned v ∧ OwnII w' w.heap.size v (decksL c c) ∧ Below w.heap.size w w' := by
  have e0 := OwnI.empty w (base := w.heap.size) (Nat.le_refl _)
  have e1 := OwnII.one (w.alloc (.cells #[] 2)) e0 (by simp)
  rw [show (w.alloc (.cells #[] 2)).heap.size = w.heap.size + 1 by simp] at e1
  have b1 : Below w.heap.size w ((w.alloc (.cells #[] 2)).alloc (.cells #[.slice (some ⟨w.heap.size, 0, none⟩) 0 0] 25)) := ((Below.refl _ _).alloc (Nat.le_refl _) _).alloc (by simp) _
  clear e0
  go_enter Try.func122, Try.ntmps122
  go_wp2
  go_loopw [3, 4, 5, 6, 7] (fun v k _ _ _ wr => ∃ kk : Nat, kk ≤ c ∧ k = .int .i64 kk ∧ OwnII wr w.heap.size v (decksL c kk) ∧ Below w.heap.size w wr) (fun _ k _ _ _ _ => c - (intOf k).toNat)
  case atStart => exact ⟨0, Nat.zero_le _, rfl, e1, b1⟩
  case round =>
    clear e1 b1
    obtain ⟨kk, hkk, rfl, hown, hbw⟩ := hrel
    obtain ⟨wo, rfl⟩ : ∃ wo : World, wo = wr := ⟨_, rfl⟩
    by_cases hk : kk < c
    · obtain ⟨hd1, hd2⟩ := decks_small h1 h3 (k := kk) (by omega)
      have hd3 := (decks_small h1 h3 (k := kk + 1) (by omega)).1
      obtain ⟨D, hD⟩ : ∃ D, D = decksL c kk := ⟨_, rfl⟩
      have hDs : decksL c (kk + 1) = D.flatMap (extD c) := by rw [hD]; rfl
      rw [← hD] at hown hd1 hd2
      rw [hDs] at hd3
      have HDS := Lib.hid hDs
      have HD2 := Lib.hid hd2
      clear hDs hD hd2
      obtain ⟨pa, pc, pv, rfl, pl, pm, pvl, prd, prow⟩ := id hown.sl
      unfold maxLen at pm
      have HV := Lib.hid pvl
      have HR := Lib.hid prow
      clear pvl prow
      have hs0 := hbw.size
      go_wp2
      go_loopw [5, 6, 7] (fun v i _ wr => ∃ ii : Nat, ii ≤ D.length ∧ i = .int .i64 ii ∧ OwnII wr wo.heap.size v ((D.take ii).flatMap (extD c)) ∧ Below wo.heap.size wo wr) (fun _ i _ _ => D.length - (intOf i).toNat)
      case atStart => exact ⟨0, Nat.zero_le _, rfl, OwnII.empty _ (Nat.le_refl _), (Below.refl _ _).alloc (Nat.le_refl _) _⟩
      case round =>
        obtain ⟨ii, hii, rfl, hnx, hbo⟩ := hrel
        obtain ⟨wp, rfl⟩ : ∃ wp : World, wp = wr := ⟨_, rfl⟩
        by_cases hi : ii < D.length
        · have hlen := flat_take_le D (extD c) ii
          have hdl := HD2.out _ (List.getElem_mem hi)
          have hft := flat_take D (extD c) hi
          obtain ⟨d, hd⟩ : ∃ d, d = D[ii] := ⟨_, rfl⟩
          obtain ⟨L, hL⟩ : ∃ L, L = (D.take ii).flatMap (extD c) := ⟨_, rfl⟩
          rw [← hL] at hnx hlen hft
          rw [← hd] at hdl hft
          have HL := Lib.hid hL
          have HFT := Lib.hid hft
          have HDD := Lib.hid hd
          have hdl' : d.length ≤ 3 := by omega
          clear hL hft hd hdl
          go_wp2
          go_loopw [5, 7] (fun v x wr => ∃ xx : Nat, xx ≤ c ∧ x = .int .i64 xx ∧ OwnII wr wo.heap.size v (L ++ extN c d xx) ∧ Below wo.heap.size wo wr) (fun _ x _ => c - (intOf x).toNat)
          case atStart => exact ⟨0, Nat.zero_le _, rfl, by simpa [extN_zero] using hnx, hbo⟩
          case round =>
            clear hnx hbo
            obtain ⟨xx, hxx, rfl, hnx, hbr⟩ := hrel
            by_cases hx : xx < c
            · obtain ⟨u, bb, oo, rfl, hcell, hu⟩ := SlII.row HV.out (prd.below hbr) (fun i hi u hu => (HR.out i hi u hu).below hbr) hi
              rw [← HDD.out] at hu
              obtain ⟨ua, uc, rfl, _⟩ := id hu
              have i1 : (ii : Int) < (D.length : Int) := by omega
              have hel := extN_length c xx d
              have hwl := hbw.trans (hbr.mono hbw.size)
              have hws := hbr.size
              have hln2 : (L ++ extN c d xx).length < 16777216 := by rw [List.length_append]; omega
              by_cases hm : (xx : Int) ∈ d
              · have hdm : decide ((xx : Int) ∈ d) = true := by simpa using hm
                have HDM := Lib.hid hdm
                have HM := Lib.hid hm
                clear hm hdm
                go_wp2_with (go_at_call 170; refine (l00Has_any _ _ hu).mono ?_; rintro e w' ⟨rfl, rfl⟩; rw [HDM.out])
                go_roundw
                case rel => exact ⟨xx + 1, by omega, by go_num, by rw [extN_no HM.out]; exact hnx, hbr⟩
                case measure => simp [intOf]; omega
              · have hdm : decide ((xx : Int) ∈ d) = false := by simpa using hm
                have HDM := Lib.hid hdm
                have HM := Lib.hid hm
                clear hm hdm
                go_wp2_with (first
                  | (go_at_call 170; refine (l00Has_any _ _ hu).mono ?_; rintro e w' ⟨rfl, rfl⟩; rw [HDM.out])
                  | (go_at_call 86; refine (l00Own_any _ hu (by omega)).mono ?_; rintro e w2 ⟨v2, rfl, o2, b2⟩; have z2 := b2.size)
                  | (at_builtin; refine append_i64 _ _ (.tmp 39) (.tmp 41) rfl rfl rfl o2 rfl (by omega) b2.size ?_; intro v3 w3 o3 b3 z3; have b23 : Below wr.heap.size wr w3 := (b2.alloc z2 _).trans b3; obtain ⟨va, vc, rfl, _⟩ := id o3.sl; simp only [List.length_append, List.length_cons, List.length_nil, Nat.zero_add] at o3)
                  | (at_builtin; refine append_row wr w3 (.tmp 34) (.tmp 43) rfl rfl rfl hnx b23 o3 rfl hln2 hws ?_; intro v4 w4 o4 b4 z4))
                rw [List.append_assoc, ← extN_yes HM.out] at o4
                have z3 := b23.size
                have bp : Below wo.heap.size wo w4 := ((hbr.trans (b23.mono hbr.size)).alloc (Nat.le_trans hbr.size z3) _).trans b4
                clear hnx o2 b2 o3 b3 b23 b4 hcell hu
                go_wp2
                go_roundw
                case rel => exact ⟨xx + 1, by omega, by go_num, o4, bp⟩
                case measure => simp [intOf]; omega
            · obtain rfl : xx = c := by omega
              go_wp2
              go_roundw
              case rel => exact ⟨ii + 1, by omega, by go_num, by rw [HFT.out]; exact hnx, hbr⟩
              case measure => simp [intOf]; omega
        · obtain rfl : ii = D.length := by omega
          go_wp2
          go_roundw
          case rel => exact ⟨kk + 1, by omega, by go_num, by rw [HDS.out]; have := hnx.lower hs0; simpa using this, hbw.trans (hbo.mono hbw.size)⟩
          case measure => simp [intOf]; omega
    · obtain rfl : kk = c := by omega
      go_wp2
      go_ret
      exact ⟨_, rfl, hown, hbw⟩
end Go.Proofs.Ytdhkbajkghngeaa
