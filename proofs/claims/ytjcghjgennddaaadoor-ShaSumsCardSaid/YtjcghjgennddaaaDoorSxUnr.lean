/- Loops whose rounds are gone through one by one. -/
import Derived.Test.YtjcghjgennddaaaDoorSxGrow
import Derived.LoopN
namespace Go.Sx
open Go.RowKit
section
variable {P : Program} {Q : Exit → Act → World → Prop} {C : Ctx} {l : Env} {H : Heap} {c : Code} {n : Nat}
/-- What is so with n rounds of a loop still allowed. -/
def WR (P : Program) (c : Code) (Q : Exit → Act → World → Prop) (n : Nat) (C : Ctx) (l : Env) (H : Heap) : Prop :=
  ∀ ρ a w, St C ρ l H a w → Code.rounds P c Q n a w
theorem wc_loopn (n : Nat) (h : WR P c Q n C l H) : WC P (.loop c) Q C l H := fun ρ a w hs => wp_loop_rounds n (h ρ a w hs)
theorem wr_go (h : WC P c (Exit.then (Code.rounds P c Q n) Q) C l H) : WR P c Q (n + 1) C l H := fun ρ a w hs => h ρ a w hs
theorem we_unr (h : WR P c Q n C l H) : WE (Exit.then (Code.rounds P c Q n) Q) .normal C l H := fun ρ a w hs => h ρ a w hs
end
end Go.Sx
