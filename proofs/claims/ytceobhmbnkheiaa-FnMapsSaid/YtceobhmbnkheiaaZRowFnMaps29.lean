/-
  The text of maps: the plain part.
-/
import Derived.Test.YtceobhmbnkheiaaZRowFnMaps19
import Derived.Test.YtceobhmbnkheiaaZRowFnMaps20
set_option linter.unusedVariables false
set_option linter.unusedSimpArgs false
namespace Go.Proofs.Ytceobhmbnkheiaa
open Go.RowKit Go.Sort
def mapsB : ByteArray := ⟨#[109, 97, 112, 115]⟩
def mapB : ByteArray := ⟨#[109, 97, 112]⟩
def colB : ByteArray := ⟨#[58]⟩
def sepB (b : ByteArray) : List ByteArray → ByteArray
  | [] => ⟨#[]⟩
  | x :: r => b ++ (x ++ sepB b r)
theorem joinFrom_sep (b : ByteArray) : ∀ (r : List ByteArray) (acc : ByteArray), joinFrom b acc false r = acc ++ sepB b r
  | [], acc => by apply ByteArray.ext; simp [joinFrom, sepB]
  | x :: r, acc => by
    show joinFrom b ((acc ++ b) ++ x) false r = acc ++ (b ++ (x ++ sepB b r))
    rw [joinFrom_sep b r]
    generalize sepB b r = t
    apply ByteArray.ext; simp
theorem joinB_sep (b x : ByteArray) (r : List ByteArray) : joinB b (x :: r) = x ++ sepB b r := by
  show joinFrom b ((⟨#[]⟩ : ByteArray) ++ x) false r = _
  rw [joinFrom_sep]
  generalize sepB b r = t
  apply ByteArray.ext; simp
theorem cuts_sep {c : UInt8} : ∀ {r : List ByteArray} {x : ByteArray}, c ∉ x.data.toList → (∀ y ∈ r, c ∉ y.data.toList) → cuts (x ++ sepB (mkB [c]) r) c = x :: r
  | [], x, h, _ => by
    rw [show x ++ sepB (mkB [c]) [] = x from by apply ByteArray.ext; simp [sepB]]
    exact cuts_one h
  | y :: r, x, h, hr => by
    show cuts (x ++ (mkB [c] ++ (y ++ sepB (mkB [c]) r))) c = _
    rw [cuts_app h, cuts_sep (hr y (by simp)) (fun z hz => hr z (by simp [hz]))]
theorem decI_no {c : UInt8} (h : c.toNat < 48) {n : Int} (hn : 0 ≤ n) : c ∉ (decIB n).data.toList := by
  rw [decIB_pos hn]
  exact dec_no h _
theorem cuts_decs {xs : List Int} (h : ∀ x ∈ xs, 0 ≤ x) (hn : xs ≠ []) : cuts (decsB xs (mkB [32])) 32 = xs.map decIB := by
  cases xs with
  | nil => exact absurd rfl hn
  | cons x r =>
    unfold decsB
    rw [List.map_cons, joinB_sep, cuts_sep (decI_no (by decide) (h x (by simp)))]
    intro y hy
    rw [List.mem_map] at hy
    obtain ⟨z, hz, rfl⟩ := hy
    exact decI_no (by decide) (h z (by simp [hz]))
theorem decs_no {c : UInt8} (hc : c.toNat < 48) (h2 : c ≠ 32) {xs : List Int} (h : ∀ x ∈ xs, 0 ≤ x) : c ∉ (decsB xs (mkB [32])).data.toList := by
  cases xs with
  | nil => simp [decsB, joinB, joinFrom]
  | cons x r =>
    unfold decsB
    rw [List.map_cons, joinB_sep, app_list, List.mem_append, not_or]
    refine ⟨decI_no hc (h x (by simp)), ?_⟩
    have hr : ∀ y ∈ r, 0 ≤ y := fun y hy => h y (by simp [hy])
    clear h
    induction r with
    | nil => simp [sepB]
    | cons y r ih =>
      rw [List.map_cons]
      show c ∉ (mkB [32] ++ (decIB y ++ sepB (mkB [32]) (r.map decIB))).data.toList
      rw [app_list, app_list, List.mem_append, List.mem_append, mkB_data, not_or, not_or]
      exact ⟨by simpa using h2, decI_no hc (hr y (by simp)), ih (fun z hz => hr z (by simp [hz]))⟩
def headMl (n t : Int) : ByteArray := mapsB ++ (mkB [32] ++ decsB [n, t] (mkB [32]))
def lineMl (m : Int × List Int) : ByteArray := mapB ++ (mkB [32] ++ (decIB m.1 ++ (mkB [32] ++ (colB ++ (mkB [32] ++ decsB m.2 (mkB [32]))))))
def headLn (n t : Int) : ByteArray := (⟨#[109, 97, 112, 115, 32]⟩ ++ decsB [n, t] ⟨#[32]⟩) ++ ⟨#[10]⟩
def mapLn (m : Int × List Int) : ByteArray := (((⟨#[109, 97, 112, 32]⟩ ++ decIB m.1) ++ ⟨#[32, 58, 32]⟩) ++ decsB m.2 ⟨#[32]⟩) ++ ⟨#[10]⟩
def linesMp : ByteArray → List (Int × List Int) → ByteArray
  | acc, [] => acc
  | acc, e :: r => linesMp (acc ++ mapLn e) r
def mapsTx (n t : Int) (ms : List (Int × List Int)) : ByteArray := linesMp (headLn n t) ms
theorem linesMp_step {acc : ByteArray} {ms : List (Int × List Int)} {k : Nat} (h : k < ms.length) : linesMp acc (ms.drop k) = linesMp (acc ++ mapLn ms[k]) (ms.drop (k + 1)) := by
  rw [List.drop_eq_getElem_cons h]; rfl
theorem linesMp_txt : ∀ (ms : List (Int × List Int)) (acc : ByteArray), linesMp acc ms = acc ++ txtL 10 (ms.map lineMl)
  | [], acc => by apply ByteArray.ext; simp [linesMp, txtL]
  | e :: r, acc => by
    show linesMp (acc ++ mapLn e) r = _
    rw [linesMp_txt r]
    show _ = acc ++ (lineMl e ++ (mkB [10] ++ txtL 10 (r.map lineMl)))
    generalize txtL 10 (r.map lineMl) = t
    have e32 : (mkB [32]) = ⟨#[32]⟩ := rfl
    unfold mapLn lineMl
    rw [e32]
    generalize decsB e.2 ⟨#[32]⟩ = d
    apply bext
    simp [mapB, colB, mkB]
theorem mapsTx_txt (n t : Int) (ms : List (Int × List Int)) : mapsTx n t ms = txtL 10 (headMl n t :: ms.map lineMl) := by
  unfold mapsTx
  rw [linesMp_txt]
  show _ = headMl n t ++ (mkB [10] ++ txtL 10 (ms.map lineMl))
  generalize txtL 10 (ms.map lineMl) = u
  have e32 : (mkB [32]) = ⟨#[32]⟩ := rfl
  unfold headLn headMl
  rw [e32]
  generalize decsB [n, t] ⟨#[32]⟩ = d
  apply ByteArray.ext
  simp [mapsB, mkB]
theorem headMl_no {n t : Int} (h1 : 0 ≤ n) (h2 : 0 ≤ t) : (10 : UInt8) ∉ (headMl n t).data.toList := by
  unfold headMl
  simp only [app_list, mkB_data, List.mem_append, not_or]
  exact ⟨by decide, by decide, decs_no (by decide) (by decide) (by simp; omega)⟩
theorem lineMl_no {m : Int × List Int} (h1 : 0 ≤ m.1) (h2 : ∀ x ∈ m.2, 0 ≤ x) : (10 : UInt8) ∉ (lineMl m).data.toList := by
  unfold lineMl
  simp only [app_list, mkB_data, List.mem_append, not_or]
  exact ⟨by decide, by decide, decI_no (by decide) h1, by decide, by decide, by decide, decs_no (by decide) (by decide) h2⟩
theorem cuts_headMl {n t : Int} (h1 : 0 ≤ n) (h2 : 0 ≤ t) : cuts (headMl n t) 32 = [mapsB, decIB n, decIB t] := by
  unfold headMl
  rw [cuts_app (by decide), cuts_decs (by simp; omega) (by simp)]; rfl
theorem cuts_lineMl {m : Int × List Int} (h1 : 0 ≤ m.1) (h2 : ∀ x ∈ m.2, 0 ≤ x) (hn : m.2 ≠ []) : cuts (lineMl m) 32 = mapB :: decIB m.1 :: colB :: m.2.map decIB := by
  unfold lineMl
  rw [cuts_app (by decide), cuts_app (decI_no (by decide) h1), cuts_app (by decide), cuts_decs h2 hn]
theorem readG_decI {n : Int} (h : 0 ≤ n) (h2 : n < 1000000000000000000) : readG (decIB n) = (n, true) := by
  rw [decIB_pos h, readG_decB (by omega)]
  congr 1; omega
theorem behind_headMl {n t : Int} (h1 : 0 ≤ n ∧ n ≤ 100) (h2 : 0 ≤ t ∧ t ≤ 100) : behindG (headMl n t) mapsB = ([n, t], true) := by
  unfold behindG
  rw [cuts_headMl h1.1 h2.1, if_pos (show [mapsB, decIB n, decIB t].getD 0 ⟨#[]⟩ = mapsB from rfl)]
  show readsG [decIB n, decIB t] [] = _
  simp [readsG, readG_decI h1.1 (by omega), readG_decI h2.1 (by omega)]
theorem linesI_txt {ls : List ByteArray} (h : ∀ x ∈ ls, (10 : UInt8) ∉ x.data.toList) (hn : ls ≠ []) : linesI (txtL 10 ls) = (ls, true) := by
  obtain ⟨s, hs⟩ := txtL_end (c := 10) hn
  have hc := cuts_txt (c := 10) h
  rw [hs, cuts_snoc] at hc
  have hc2 : cuts s 10 = ls := List.append_cancel_right hc
  rw [hs]
  have hz : (s ++ mkB [10]).size = s.size + 1 := by rw [ByteArray.size_append]; rfl
  have he : (s ++ mkB [10])[s.size]'(by omega) = 10 := by
    by_cases e : (s ++ mkB [10])[s.size]'(by omega) = 10
    · exact e
    · exact absurd rfl (last_no hz e s)
  rw [linesI_yes hz he]
  have hy := last_yes hz he
  have hx : (s ++ mkB [10]).extract 0 s.size = s := by
    have h1 : ((s ++ mkB [10]).extract 0 s.size).data.toList ++ [10] = s.data.toList ++ [10] := by
      have := congrArg (fun b : ByteArray => b.data.toList) hy
      simpa [app_list, mkB_data] using this
    exact bext (List.append_cancel_right h1)
  rw [hx, hc2]
end Go.Proofs.Ytceobhmbnkheiaa
