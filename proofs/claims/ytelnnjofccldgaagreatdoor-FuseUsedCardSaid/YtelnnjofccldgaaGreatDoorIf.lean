/-
  A region whose operations are quiet, walked in the order of the text, whether an operation is wanted told by the kernel: no new goal bears the 'if' of the guard (Lean would evaluate it, exponentially in the guards). No program in sight.
-/
import Derived.Test.YtelnnjofccldgaaGreatDoorLib
import Derived.Lib.QuietBelow
namespace Go.Tw
section
variable {P : Program} {ops : Array Oper} {C : World → Prop}
/-- the walk's goal, shut -/
structure QW (P : Program) (ops : Array Oper) (C : World → Prop) (Q : Act → Prop) (l : List Oper) (a : Act) : Prop where
  out : wpQuiet P ops C Q l a
theorem QW.yes {Q : Act → Prop} {a : Act} {o : Oper} {rest : List Oper} (hw : Region.wanted o (yielded ops a.tmps) = true) (h : ∀ K : Act → Prop, (∀ a, QW P ops C Q rest a → K a) → o.quiet P a C K) : QW P ops C Q (o :: rest) a :=
  ⟨wpQuiet_step (fun K hK => by rw [if_pos hw]; exact h K (fun a ha => hK a ha.out))⟩
theorem QW.no {Q : Act → Prop} {a : Act} {o : Oper} {rest : List Oper} (hw : Region.wanted o (yielded ops a.tmps) = false) (h : QW P ops C Q rest (a.put o.dst undef)) : QW P ops C Q (o :: rest) a :=
  ⟨wpQuiet_step (fun K hK => by rw [if_neg (by rw [hw]; decide)]; exact hK _ h.out)⟩
theorem QW.nil {Q : Act → Prop} {a : Act} (h : Q a) : QW P ops C Q [] a := ⟨wpQuiet_nil h⟩
theorem QW.region {id : Nat} {Q : Exit → Act → World → Prop} {a : Act} {w : World} {l : List Oper} (hm : P.follows .mixedOrders = true) (hB : Region.lexB .any l.toArray = true)
    (h : QW P l.toArray (fun w' => ∃ p : Regrown, w' = Go.Sort.grow (redrawn w p.d) p.os) (fun a' => ∀ w', (∃ p : Regrown, w' = Go.Sort.grow (redrawn w p.d) p.os) → Q .normal a' w') l a) : (Code.region id l.toArray true).wp P Q a w :=
  wp_region_quiet_below hm hB h.out
end
end Go.Tw
