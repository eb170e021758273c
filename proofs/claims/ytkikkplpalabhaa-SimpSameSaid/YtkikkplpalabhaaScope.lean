/- A scope in which the run may jump once, forward, to a label. No program in sight. -/
import Derived.ScopeJumps
import Derived.WalkMore
import Derived.WalkKit
namespace Go.Proofs.Ytkikkplpalabhaa
open Go

section
variable {P : Program} {a : Act} {w : World} {Q : Exit → Act → World → Prop} {l : Nat} {J : Act → World → Prop}
@[go_sem] theorem jump_ret : Exit.jump l J Q .ret a w = Q .ret a w := rfl
@[go_sem] theorem jump_normal : Exit.jump l J Q .normal a w = Q .normal a w := rfl
@[go_sem] theorem jump_exit (id : Nat) : Exit.jump l J Q (.exit id) a w = Q (.exit id) a w := rfl
@[go_sem] theorem jump_panic (ch : List PanicEntry) : Exit.jump l J Q (.panic ch) a w = Q (.panic ch) a w := rfl
/-- Behind the label: no jump any more. -/
def JumpTo (P : Program) (l : Nat) (rest : Code) (Q : Exit → Act → World → Prop) (a : Act) (w : World) : Prop := rest.wp P (Exit.jump l (fun _ _ => False) Q) a w
theorem wp_scope_once {c rest : Code} (l : Nat) (hf : findLabel c l = some rest) (first : c.wp P (Exit.jump l (JumpTo P l rest Q) Q) a w) : (Code.scope c).wp P Q a w := by
  refine wp_scope_jumps l (JumpTo P l rest Q) (fun _ _ => 0) hf first (fun a' w' h => Code.wp_mono (fun e a w q => ?_) h)
  cases e with
  | goto l' => exact q.2.elim
  | normal => exact q
  | exit id => exact q
  | ret => exact q
  | panic ch => exact q
  | outgrown => exact q
end
end Go.Proofs.Ytkikkplpalabhaa
