/-
  Small words for laws whose arguments are []int64.
-/
import Derived.Test.YtmhpbkckmjdojaaBaseII
namespace Go.Proofs.Ytmhpbkckmjdojaa
open Go.RowKit
theorem eqInt64S_refl {u v : Value} {xs : List Int} (w : World) (ha : SlI w u xs) (hb : SlI w v xs) :
    Calls Try.prog 13 #[u, v] w fun e w' => e = .returned (.bool true) ∧ Below w.heap.size w w' :=
  (eqInt64S_any w ha hb).mono fun e w' ⟨h, hb⟩ => ⟨by rw [h]; simp, hb⟩
theorem eqInt64SS_refl {u v : Value} {xs : List (List Int)} (w : World) (ha : SlII w u xs) (hb : SlII w v xs) :
    Calls Try.prog 11 #[u, v] w fun e w' => e = .returned (.bool true) ∧ Below w.heap.size w w' :=
  (eqInt64SS_any w ha hb).mono fun e w' ⟨h, hb⟩ => ⟨by rw [h]; simp, hb⟩
end Go.Proofs.Ytmhpbkckmjdojaa
