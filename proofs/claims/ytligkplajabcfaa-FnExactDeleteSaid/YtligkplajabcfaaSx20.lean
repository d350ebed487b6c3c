import Derived.Test.YtligkplajabcfaaSx19
import Derived.Below
set_option linter.unusedVariables false
set_option linter.unusedSimpArgs false
set_option linter.unusedSectionVars false
namespace Go.SX
open Go.RowKit (Below)
variable {P : Program} {K : FuncId → Cfg}

/-- what is there -/
def There (w : World) : Nat → Prop := fun k => k < w.heap.size
theorem law_run (hm : P.follows .mixedOrders = true) {okf : FuncId → Bool} {pr : FuncId → Option (List A → Option (A × List (Option Cs)))} (hpr : ∀ f g, pr f = some g → FOk P f g) {f : FuncId} {fn : Func} (hf : P.funcs[f]? = some fn) (hn : (fn.name == "runtime.NumGoroutine") = false) (hb : fn.body.isNone = false)
    {xs : List A} {b : Bool} {o : Option Sz} {back : List (Option Cs)} (h : Fz P K okf pr f xs = some (.c (.s (.bool b)) o, back)) {w : World} {vs : List Value} {hs : List H} (hA : ArgsRel w (There w) xs vs hs []) :
    Calls P f vs.toArray w fun e w' => e = .returned (.bool b) ∧ Below w.heap.size w w' := by
  rcases Fz_true hm okf pr hpr f xs _ back h w vs hs [] (There w) hA List.nodup_nil (by simp) with ⟨_, _, _, _, hc⟩ | ⟨v, w', hr, _⟩
  · refine hc.mono fun e w' he => ?_
    cases e with
    | returned v =>
      obtain ⟨ok', b0, b1, e1, e2, _, e4, _⟩ := he
      obtain ⟨hs', e4⟩ := e4
      have hv : v = .bool b := by
        cases e4 with
        | sh h _ => cases h; rfl
      exact ⟨by rw [hv], ⟨e1.os, e1.tape, e1.output, e1.size, fun k hk => e1.old k hk (by simp)⟩⟩
    | panicked _ => exact he.elim
    | outgrown => exact he.elim
  · have hn' : ¬ (fn.name = "runtime.NumGoroutine") := by simpa using hn
    have hb' : fn.body ≠ none := by intro e; rw [e] at hb; simp at hb
    simp [callFunc, run_program, hf, hn', hb'] at hr
end Go.SX
