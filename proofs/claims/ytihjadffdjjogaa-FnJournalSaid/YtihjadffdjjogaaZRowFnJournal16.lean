/-
  StepByDraw and RunByDraws, both sides, for valid arguments.
-/
import Derived.Test.YtihjadffdjjogaaZRowFnJournal8
import Derived.Test.YtihjadffdjjogaaZRowFnJournal11
import Derived.Test.YtihjadffdjjogaaZRowFnJournal4
import Derived.Test.YtihjadffdjjogaaZRowFnJournal7
set_option linter.unusedVariables false
set_option linter.unusedSimpArgs false
namespace Go.Proofs.Ytihjadffdjjogaa
open Go.RowKit Go.Sort
theorem OwnI.lit1 (w : World) {base : Nat} (hb : base ≤ w.heap.size) (x : Int) : OwnI (w.alloc (.cells #[.int .i64 x] 2)) base (.slice (some ⟨w.heap.size, 0, none⟩) 1 1) [x] :=
  World.ownsRow_lit (base := base) (e := 2) (size := 1) w #[.int .i64 x] 1 hb (by simp [maxLen]) (by simp)
theorem isState_c {u : Value} (st t x : Int) (w : World) (h1 : 1 ≤ st) (h2 : st ≤ 1000) :
    Calls Try.prog 43 #[.agg #[.int .i64 st, .int .i64 t, u], .int .i64 x] w fun e w' => e = .returned (.bool (inR x 0 (st - 1))) ∧ Below w.heap.size w w' := by
  go_enter Try.func43, Try.ntmps43
  go_wp2_with (go_at_call 41; refine (inRange_any _ _ _ _).mono ?_; rintro e w' ⟨rfl, rfl⟩)
  go_ret
  exact ⟨rfl, (Below.refl _ _).alloc (Nat.le_refl _) _⟩
theorem step_appJ {ops : Array Oper} {o : Oper} {a : Act} {K : Act → World → Prop} {Q : Exit → Act → World → Prop} {E : Prop} {w w0 w1 : World} (hg : o.guard = none) (s x : Operand)
    (ho : o.op = .call { callee := .builtin .append, args := #[s, x], argTypes := #[35, 35] })
    {g : Nat} {v : Value} {xs : List Int} {y : Int} (hs : a.eval s = v) (hown : OwnI w1 w0.heap.size v xs) (h01 : Below w0.heap.size w0 w1) (h1w : Below w1.heap.size w1 w) (hx : a.eval x = .slice (some ⟨g, 0, none⟩) 1 1) (hc : w.cell? ⟨g, 0, none⟩ = some (.int .i64 y)) (hlen : xs.length < 16777216)
    (h : ∀ v' w', OwnI w' w0.heap.size v' (xs ++ [y]) → Below w0.heap.size w0 w' → K (a.put o.dst v') w') : if Region.wanted o (yielded ops a.tmps) = true then Oper.wp Try.prog o a w K Q else E := by
  have h0w := h01.trans (h1w.mono h01.size)
  have hown' := hown.below h1w
  exact stepAppI w s x hg ho hs hown' hx hc hlen h0w.size (fun v' w' k1 k2 => h v' w' k1 (h0w.trans (hown'.grown k2 h0w.size)))
end Go.Proofs.Ytihjadffdjjogaa
